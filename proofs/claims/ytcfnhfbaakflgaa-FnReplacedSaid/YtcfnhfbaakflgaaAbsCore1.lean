/- The reader's word on an operation, and the model's: those that leave the memory as it is. -/
import Derived.Test.YtcfnhfbaakflgaaAbsOps
set_option linter.unusedVariables false
set_option linter.unusedSimpArgs false
set_option linter.unusedSectionVars false
namespace Go.Proofs.Ytcfnhfbaakflgaa.Abs
open Go Go.RowKit

section
variable {P : Program} {E : Env} {call : (I : FnI) → List SV → Tab → Option (I.sh.den × I.bx.den)} {w0 : World} {X : Nat → Prop} {Pr0 : Nat → Nat → Prop} {sl : List SV} {get : Nat → Option Res} {γ : Nat → Option G} {Pr : Nat → Nat → Prop}
  {a : Act} {w : World} {res : Tab} {r0 : Nat} {o : Oper} {vs : List SV} {v : SV} {u : Up}
/-- What is known ahead of an operation. -/
structure Ahead (P : Program) (E : Env) (call : (I : FnI) → List SV → Tab → Option (I.sh.den × I.bx.den)) (w0 : World) (X : Nat → Prop) (Pr0 : Nat → Nat → Prop) (sl : List SV) (get : Nat → Option Res) (γ : Nat → Option G) (Pr : Nat → Nat → Prop) (a : Act) (w : World)
    (res : Tab) (r0 : Nat) (o : Oper) (vs : List SV) (v : SV) (u : Up) : Prop where
  env : EnvOk P E
  inv : Inv w0 X Pr0 sl get γ Pr a w
  know : ∀ r x, getR res r = some x → get r = some x
  free : ∀ r, r0 ≤ r → r < r0 + 64 → γ r = none
  ops : RVs (Ln Pr w) γ vs ((opnds o.op).map a.eval)
  says : core E call o vs res r0 ans = some (v, u)
abbrev Done (P : Program) (w0 : World) (X : Nat → Prop) (Pr0 : Nat → Nat → Prop) (sl : List SV) (get : Nat → Option Res) (γ : Nat → Option G) (Pr : Nat → Nat → Prop) (a : Act) (w : World) (r0 : Nat) (o : Oper) (v : SV) (u : Up) : Prop :=
  Owes P w0 X Pr0 o sl get γ Pr r0 a w v (updG get u)
theorem RVs_one {L : Lk} {x : Value} (h : RVs L γ vs [x]) : ∃ p, vs = [p] ∧ RV L γ p x := by
  cases h with
  | cons h k =>
    cases k
    exact ⟨_, rfl, h⟩
theorem RVs_two {L : Lk} {x y : Value} (h : RVs L γ vs [x, y]) : ∃ p q, vs = [p, q] ∧ RV L γ p x ∧ RV L γ q y := by
  cases h with
  | cons h k =>
    obtain ⟨q, rfl, hq⟩ := RVs_one k
    exact ⟨_, _, rfl, h, hq⟩
theorem RVs_three {L : Lk} {x y z : Value} (h : RVs L γ vs [x, y, z]) : ∃ p q r, vs = [p, q, r] ∧ RV L γ p x ∧ RV L γ q y ∧ RV L γ r z := by
  cases h with
  | cons h k =>
    obtain ⟨q, r, rfl, hq, hr⟩ := RVs_two k
    exact ⟨_, _, _, rfl, h, hq, hr⟩
theorem nth_ok (hE : EnvOk P E) {T : TypeId} {t : Ty} (h : nth E.ty T = some t) : UnderOk P T t ∧ InfoOk P T t := hE.ty T t h
theorem op_load (H : Ahead P E call w0 X Pr0 sl get γ Pr a w res r0 o vs v u) {T : TypeId} {i : Operand} (hop : o.op = .load T i) : Done P w0 X Pr0 sl get γ Pr a w r0 o v u := by
  obtain ⟨hE, hI, hk, hfr, hv, hc⟩ := H
  rw [hop] at hv
  obtain ⟨p, rfl, hp⟩ := RVs_one hv
  unfold core at hc
  simp only [hop] at hc
  have ho : execOp a.eval o = (do pure (.value (← Instr.loadAt T (a.eval i)))) := by simp only [execOp, hop]
  split at hc
  · rename_i t r s path hT
    split at hc
    · rename_i hst
      subst hst
      obtain ⟨hU, hT⟩ := nth_ok hE hT
      split at hc
      · rename_i bt c hg
        split at hc
        · rename_i l hl
          obtain ⟨cs, h1, h2⟩ := load_ptr (P := P) hI hp (hk _ _ hg) hT hl
          split at hc
          · rename_i t'
            split at hc
            · rename_i v' hcl
              cases hc
              cases h2 with
              | strct h2 => exact owes_pure hI ho h1 (closeUp_ok h2 hcl).1
            · cases hc
          · cases hc
        · rename_i v' hl hne
          cases hc
          obtain ⟨cs, h1, h2⟩ := load_ptr (P := P) hI hp (hk _ _ hg) hT hne
          exact owes_pure hI ho h1 (RT_RV h2)
        · cases hc
      · cases hc
    · cases hc
  · rename_i t s x hT
    split at hc
    · rename_i hst
      subst hst
      cases hc
      obtain ⟨cs, h1, h2⟩ := load_eptr (P := P) (w := w) (fun b o v h => h.2) hp (nth_ok hE hT).2
      exact owes_pure hI ho h1 (.val h2)
    · cases hc
  · rename_i t r s0 i' path hT
    split at hc
    · rename_i e u' xs fr hg
      split at hc
      · rename_i s y hy
        split at hc
        · rename_i hst
          subst hst
          cases hc
          obtain ⟨cs, h1, h2⟩ := load_rptr (P := P) hI hp (hk _ _ hg) (nth_ok hE hT).2 hy
          exact owes_pure hI ho h1 (.val h2)
        · cases hc
      · cases hc
    · cases hc
  · cases hc
theorem op_field (H : Ahead P E call w0 X Pr0 sl get γ Pr a w res r0 o vs v u) {T : TypeId} {i : Operand} {f : Nat} (hop : o.op = .field T i f) : Done P w0 X Pr0 sl get γ Pr a w r0 o v u := by
  obtain ⟨hE, hI, hk, hfr, hv, hc⟩ := H
  rw [hop] at hv
  obtain ⟨p, rfl, hp⟩ := RVs_one hv
  unfold core at hc
  simp only [hop] at hc
  have ho : execOp a.eval o = (do pure (.value (← Instr.field T (a.eval i) f))) := by simp only [execOp, hop]
  split at hc
  · rename_i t hT
    split at hc
    · rename_i hf
      split at hc
      · rename_i v' hg
        cases hc
        obtain ⟨s, cs, h1, h2⟩ := field_ok (P := P) (w := w) (hI.tys hk) (nth_ok hE hT).1 hp hf hg
        exact owes_pure hI ho h1 (RT_RV h2)
      · cases hc
    · cases hc
  · cases hc
theorem op_fieldAddr (H : Ahead P E call w0 X Pr0 sl get γ Pr a w res r0 o vs v u) {T : TypeId} {i : Operand} {f : Nat} (hop : o.op = .fieldAddr T i f) : Done P w0 X Pr0 sl get γ Pr a w r0 o v u := by
  obtain ⟨hE, hI, hk, hfr, hv, hc⟩ := H
  rw [hop] at hv
  obtain ⟨p, rfl, hp⟩ := RVs_one hv
  unfold core at hc
  simp only [hop] at hc
  have ho : execOp a.eval o = (do pure (.value (← Instr.fieldAt T (a.eval i) f))) := by simp only [execOp, hop]
  split at hc
  · rename_i t hT
    have hU := (nth_ok hE hT).1
    split at hc
    · rename_i r s path
      split at hc
      · rename_i o' s' hf
        split at hc
        · rename_i hst
          cases hc
          generalize hx : a.eval i = x at *
          cases hp with
          | ptr h hp' => exact owes_pure hI ho (fieldAddr_ok hU hf) (.ptr h (offP_snoc hp' hst hf))
        · cases hc
      · cases hc
    · rename_i s x
      split at hc
      · rename_i x' hx'
        obtain ⟨rfl, rfl⟩ := cast_eq hx'
        split at hc
        · rename_i s y hg
          cases hc
          obtain ⟨s1, y1, o', he, hf, hcs⟩ := getF_ok (L := Ln Pr w) hg
          cases he
          generalize hx : a.eval i = x at *
          cases hp with
          | eptr h hcell =>
            obtain ⟨c, h1, h2⟩ := hcs _ h
            refine owes_pure hI ho (fieldAddr_ok hU hf) (.eptr h1 fun j v hj => ?_)
            rw [Nat.add_assoc]
            exact hcell _ _ (h2 j v hj)
        · cases hc
      · cases hc
    · rename_i r s n path
      split at hc
      · rename_i o' s' hf
        split at hc
        · rename_i hst
          cases hc
          generalize hx : a.eval i = x at *
          cases hp with
          | rptr h h0 hn hp' =>
            refine owes_pure hI ho (fieldAddr_ok hU hf) ?_
            rw [Nat.add_assoc]
            exact .rptr h h0 hn (offP_snoc hp' hst hf)
        · cases hc
      · cases hc
    · cases hc
  · cases hc
theorem op_nilCheck (H : Ahead P E call w0 X Pr0 sl get γ Pr a w res r0 o vs v u) {i : Operand} (hop : o.op = .nilCheck i) : Done P w0 X Pr0 sl get γ Pr a w r0 o v u := by
  obtain ⟨hE, hI, hk, hfr, hv, hc⟩ := H
  rw [hop] at hv
  obtain ⟨p, rfl, hp⟩ := RVs_one hv
  unfold core at hc
  simp only [hop] at hc
  have main : ∀ ad, a.eval i = .pointer (some ad) → Owes P w0 X Pr0 o sl get γ Pr r0 a w p (updG get []) := by
    intro ad hx next Q h
    unfold Oper.wp
    have : (execOp a.eval o).run P w = .ok (.value (.pointer (some ad))) w := by simp only [execOp, hop, hx, Sem.run_pure]
    rw [this]
    exact h _ γ Pr w (hx ▸ hp) hI (fun _ _ => rfl)
  generalize hx : a.eval i = x at *
  split at hc
  · cases hc
    cases hp with
    | ptr h hp' => exact main _ rfl
  · cases hc
    cases hp with
    | eptr h hp' => exact main _ rfl
  · cases hc
    cases hp with
    | rptr h h0 hn hp' => exact main _ rfl
  · cases hc
theorem op_extract (H : Ahead P E call w0 X Pr0 sl get γ Pr a w res r0 o vs v u) {i : Operand} {f : Nat} (hop : o.op = .extract i f) : Done P w0 X Pr0 sl get γ Pr a w r0 o v u := by
  obtain ⟨hE, hI, hk, hfr, hv, hc⟩ := H
  rw [hop] at hv
  obtain ⟨p, rfl, hp⟩ := RVs_one hv
  unfold core at hc
  simp only [hop] at hc
  have ho : execOp a.eval o = (do pure (.value (← Instr.extract (a.eval i) f))) := by simp only [execOp, hop]
  split at hc
  · rename_i l
    split at hc
    · rename_i v' hg
      cases hc
      generalize hx : a.eval i = x at *
      cases hp with
      | tup h =>
        obtain ⟨u, h1, h2⟩ := RVs_get h hg
        refine owes_pure hI ho ?_ h2
        simp [Instr.extract, h1]
    · cases hc
  · cases hc
theorem op_makeFunc (H : Ahead P E call w0 X Pr0 sl get γ Pr a w res r0 o vs v u) {fn : Fn} {first captured : Array Operand} (hop : o.op = .makeFunc fn first captured) : Done P w0 X Pr0 sl get γ Pr a w r0 o v u := by
  obtain ⟨hE, hI, hk, hfr, hv, hc⟩ := H
  rw [hop] at hv
  unfold core at hc
  simp only [hop] at hc
  have ho : execOp a.eval o = (do pure (.value (← Instr.makeFunc fn (first.map a.eval) (captured.map a.eval)))) := by simp only [execOp, hop]
  cases fn with
  | func g =>
    have hc' : (match first.size with
      | 0 => ans (.fn g vs) []
      | _ => none) = some (v, u) := by
      rcases vs with _ | ⟨v1, _ | ⟨v2, _ | ⟨v3, vs⟩⟩⟩ <;> exact hc
    split at hc'
    · rename_i hs
      cases hc'
      have hf : first = #[] := Array.size_eq_zero_iff.1 hs
      subst hf
      have : (captured.map a.eval) = (captured.toList.map a.eval).toArray := by
        apply Array.toList_inj.1
        simp
      refine owes_pure (u := .func (.func g) #[] (captured.toList.map a.eval).toArray) hI ho ?_ ?_
      · rw [this, Array.map_empty]
        rfl
      refine .fn ?_
      simpa [opnds] using hv
    · cases hc'
  | _ => rcases vs with _ | ⟨v1, _ | ⟨v2, _ | ⟨v3, vs⟩⟩⟩ <;> cases hc
theorem op_unOp (H : Ahead P E call w0 X Pr0 sl get γ Pr a w res r0 o vs v u) {op : UnOp} {T : TypeId} {i : Operand} (hop : o.op = .unOp op T i) : Done P w0 X Pr0 sl get γ Pr a w r0 o v u := by
  obtain ⟨hE, hI, hk, hfr, hv, hc⟩ := H
  rw [hop] at hv
  obtain ⟨p, rfl, hp⟩ := RVs_one hv
  unfold core at hc
  simp only [hop] at hc
  have ho : execOp a.eval o = (do pure (.value (← Op.unary op (a.eval i)))) := by simp only [execOp, hop]
  split at hc
  · cases hc
    rw [val_int hp] at ho
    exact owes_pure hI ho (by simp [Op.unary, Op.intArith]) int_val
  · cases hc
    rw [val_bool hp] at ho
    exact owes_pure hI ho (by simp [Op.unary]) bool_val
  · cases hc
    rw [val_int hp] at ho
    exact owes_pure hI ho (by simp only [Op.unary]; simp [go_sem]) int_val
  · cases hc
theorem op_pick (H : Ahead P E call w0 X Pr0 sl get γ Pr a w res r0 o vs v u) {i j k : Operand} (hop : o.op = .pick i j k) : Done P w0 X Pr0 sl get γ Pr a w r0 o v u := by
  obtain ⟨hE, hI, hk, hfr, hv, hc⟩ := H
  rw [hop] at hv
  obtain ⟨p, q, r, rfl, hp, hq, hr⟩ := RVs_three hv
  unfold core at hc
  simp only [hop] at hc
  have ho : ∀ x, a.eval i = .bool x → (execOp a.eval o).run P w = .ok (.value (if x = true then a.eval j else a.eval k)) w := fun x hx => by
    simp only [execOp, hop, hx, asBool, Sem.run_bind, Sem.run_pure, Result.andThen_ok]
  split at hc
  · rename_i x y z
    cases hc
    refine owes_run hI (ho x (val_bool hp)) ?_
    rw [val_bool hq, val_bool hr]
    cases x
    · exact bool_val
    · exact bool_val
  · rename_i x hne
    split at hc
    · rename_i hx
      cases hc
      refine owes_run hI (ho x (val_bool hp)) ?_
      rw [if_pos hx]
      exact hq
    · rename_i hx
      cases hc
      refine owes_run hI (ho x (val_bool hp)) ?_
      rw [if_neg hx]
      exact hr
  · cases hc
theorem op_index (H : Ahead P E call w0 X Pr0 sl get γ Pr a w res r0 o vs v u) {T : TypeId} {i j : Operand} (hop : o.op = .index T i j) : Done P w0 X Pr0 sl get γ Pr a w r0 o v u := by
  obtain ⟨hE, hI, hk, hfr, hv, hc⟩ := H
  rw [hop] at hv
  obtain ⟨p, q, rfl, hp, hq⟩ := RVs_two hv
  unfold core at hc
  simp only [hop] at hc
  have ho : execOp a.eval o = (do pure (.value (← Instr.index T (a.eval i) (a.eval j)))) := by simp only [execOp, hop]
  split at hc
  · rename_i s k n hT
    split at hc
    · rename_i h0
      split at hc
      · rename_i h1
        cases hc
        rw [val_str hp, val_int hq] at ho
        refine owes_pure hI ho ?_ int_val
        rw [run_index_string _ _ _ _ _ (nth_ok hE hT).1, dif_pos ⟨h0, h1⟩]
        have hs : Int.toNat n < ByteArray.size s := (Int.toNat_lt h0).2 h1
        simp [bt, hs]
      · cases hc
    · cases hc
  · cases hc
theorem op_convert (H : Ahead P E call w0 X Pr0 sl get γ Pr a w res r0 o vs v u) {S D : TypeId} {i : Operand} (hop : o.op = .convert S D i) : Done P w0 X Pr0 sl get γ Pr a w r0 o v u := by
  obtain ⟨hE, hI, hk, hfr, hv, hc⟩ := H
  rw [hop] at hv
  obtain ⟨p, rfl, hp⟩ := RVs_one hv
  unfold core at hc
  simp only [hop] at hc
  have ho : execOp a.eval o = (do pure (.value (← convert S D (a.eval i)))) := by simp only [execOp, hop]
  have hsome : ∀ {T t}, nth E.ty T = some t → ∃ d, P.underlying T = some d := fun h => by
    obtain ⟨d, hd, _⟩ := (nth_ok hE h).2.agg
    exact ⟨d, hd⟩
  split at hc
  · rename_i t0 k k' n hS hD
    cases hc
    rw [val_int hp] at ho
    obtain ⟨d, hd⟩ := hsome hS
    refine owes_pure hI ho ?_ int_val
    simp only [convert, Sem.run_bind, run_underlying hd, run_underlying (nth_ok hE hD).1, Result.andThen_ok]
    cases d <;> simp [Conv.intToInt]
  · rename_i t0 s hS hD
    cases hc
    rw [val_str hp] at ho
    obtain ⟨d, hd⟩ := hsome hS
    refine owes_pure hI ho ?_ str_val
    simp only [convert, Sem.run_bind, run_underlying hd, run_underlying (nth_ok hE hD).1, Result.andThen_ok]
    cases d <;> simp
  · rename_i e hS hD hne
    split at hc
    · rename_i xs hl
      cases hc
      obtain ⟨cs, hx, hrk⟩ := readT hI hk hp hl
      rw [hx] at ho
      obtain ⟨hs, hei, _, hu8⟩ := (nth_ok hE hS).1
      have hcs : cs = [mk (.slice e (.int .u8)) cs] := by
        obtain ⟨A, cap, rfl, _⟩ := hrk
        rfl
      rw [hcs] at hrk
      exact owes_pure hI ho (bytes_ok hs (hu8 rfl) (nth_ok hE hD).1 hrk) str_val
    · cases hc
  · cases hc
end
end Go.Proofs.Ytcfnhfbaakflgaa.Abs
