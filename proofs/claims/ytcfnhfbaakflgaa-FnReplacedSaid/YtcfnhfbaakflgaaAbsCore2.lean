/- Places, operators, cuts: what leaves the memory as it is (rows may be shared from now on). -/
import Derived.Test.YtcfnhfbaakflgaaAbsCore1
import Derived.Laws.Small
import Derived.Laws.StructEq
set_option linter.unusedVariables false
set_option linter.unusedSimpArgs false
set_option linter.unusedSectionVars false
namespace Go.Proofs.Ytcfnhfbaakflgaa.Abs
open Go Go.RowKit

section
variable {P : Program} {E : Env} {call : (I : FnI) → List SV → Tab → Option (I.sh.den × I.bx.den)} {w0 : World} {X : Nat → Prop} {Pr0 : Nat → Nat → Prop} {sl : List SV} {get : Nat → Option Res} {γ : Nat → Option G} {Pr : Nat → Nat → Prop}
  {a : Act} {w : World} {res : Tab} {r0 : Nat} {o : Oper} {vs : List SV} {v : SV} {u : Up}
theorem RK_at {L : Lk} {e : TypeId} {t : Ty} {xs : List t.den} {u : Value} (h : RK L (.slice e t) xs [u]) {i : Nat} (hi : i < xs.length) :
    ∃ b o cap, u = .slice (some ⟨b, o, none⟩) xs.length cap ∧ ∃ c, RK L t (xs.getD i t.dflt) c ∧ ∀ j v, c[j]? = some v → L b (o + i * t.sz + j) v := by
  obtain ⟨A, cap, hu, hcap, hA⟩ := h
  cases hu
  obtain ⟨b, o, rfl, hh⟩ := hA (by intro h; subst h; simp at hi)
  obtain ⟨c, h1, h2⟩ := hh i hi
  refine ⟨b, o, cap, rfl, c, ?_, h2⟩
  rwa [List.getD_eq_getElem?_getD, List.getElem?_eq_getElem hi, Option.getD_some]
theorem indexAt_ok {T e : TypeId} {t : Ty} {k : IntKind} {n : Int} {b o len cap : Nat} (hU : UnderOk P T (.slice e t)) (h0 : 0 ≤ n) (h1 : n < len) : (Instr.indexAt T (.slice (some ⟨b, o, none⟩) len cap) (.int k n)).run P w = .ok (.pointer (some ⟨b, o + n.toNat * t.sz, none⟩)) w := by
  obtain ⟨hT, hei, hsz, _⟩ := hU
  have hel : P.elem T = e := by simp [Program.elem, hT]
  rw [run_indexAt_slice (h := by rw [hel]; exact hT), if_pos ⟨h0, h1⟩, hel, hei.sizeOf]
  simp only [Result.andThen_ok, add_lit]
theorem eptr_ok {L : Lk} (hI : Inv w0 X Pr0 sl get γ Pr a w) {T e : TypeId} {t : Ty} {xs : List t.den} {k : IntKind} {n : Int} {x : Value} (hU : UnderOk P T (.slice e t)) (hx : RK L (.slice e t) xs [x]) (h0 : 0 ≤ n) (h1 : n < xs.length) :
    ∃ z, (Instr.indexAt T x (.int k n)).run P w = .ok z w ∧ RV L γ (.eptr t (xs.getD n.toNat t.dflt)) z := by
  obtain ⟨b, o, cap, rfl, c, h2, h3⟩ := RK_at hx (i := n.toNat) (by omega)
  exact ⟨_, indexAt_ok hU h0 h1, .eptr h2 h3⟩
theorem op_indexAddr (H : Ahead P E call w0 X Pr0 sl get γ Pr a w res r0 o vs v u) {T : TypeId} {i j : Operand} (hop : o.op = .indexAddr T i j) : Done P w0 X Pr0 sl get γ Pr a w r0 o v u := by
  obtain ⟨hE, hI, hk, hfr, hv, hc⟩ := H
  rw [hop] at hv
  obtain ⟨p, q, rfl, hp, hq⟩ := RVs_two hv
  unfold core at hc
  simp only [hop] at hc
  have ho : execOp a.eval o = (do pure (.value (← Instr.indexAt T (a.eval i) (a.eval j)))) := by simp only [execOp, hop]
  split at hc
  · rename_i e t k n hT
    have hU := (nth_ok hE hT).1
    rw [val_int hq] at ho
    split at hc
    · rename_i r
      split at hc
      · rename_i e' t' xs fr hg
        split at hc
        · rename_i hst
          cases hst
          have hres := hI.res r _ (hk _ _ hg)
          split at hc
          · split at hc
            · rename_i h0
              split at hc
              · rename_i h1
                cases hc
                obtain ⟨v', css, hv', he, hown, _⟩ := hres
                generalize hx : a.eval i = x at *
                cases hp with
                | row h =>
                  rw [hv'] at h
                  cases h
                  rcases hown.2 with ⟨rfl, hn⟩ | ⟨g, cap, cur, rfl, _, hh, hnc, _⟩
                  · exact absurd h1 (by rw [hn]; exact Int.not_lt.2 h0)
                  · have hp : RV (Ln Pr w) γ (.rptr r t n []) (.pointer (some ⟨g, n.toNat * t.sz + 0, none⟩)) := .rptr hv' h0 h1 (by cases t <;> rfl)
                    refine owes_pure hI ho ?_ hp
                    rw [indexAt_ok hU h0 h1, Nat.zero_add, Nat.add_zero]
              · cases hc
            · cases hc
          · split at hc
            · rename_i h0
              split at hc
              · rename_i h1
                cases hc
                obtain ⟨v', hv', hrk⟩ := row_RK (Pr' := Pr) hres (fun _ _ h => h) (by
                  obtain ⟨v', css, hv', he, hown, hf⟩ := hres
                  intro b hb
                  refine hf rfl b ?_
                  simpa [blk, hv'] using hb)
                generalize hx : a.eval i = x at *
                cases hp with
                | row h =>
                  rw [hv'] at h
                  cases h
                  obtain ⟨z, h2, h3⟩ := eptr_ok (k := k) hI hU hrk h0 h1
                  exact owes_pure hI ho h2 h3
              · cases hc
            · cases hc
        · cases hc
      · rename_i e' t' xs hg
        split at hc
        · rename_i hst
          cases hst
          obtain ⟨v', hv', hrk⟩ := hI.res r _ (hk _ _ hg)
          split at hc
          · rename_i h0
            split at hc
            · rename_i h1
              cases hc
              generalize hx : a.eval i = x at *
              cases hp with
              | row h =>
                rw [hv'] at h
                cases h
                obtain ⟨z, h2, h3⟩ := eptr_ok (k := k) hI hU hrk h0 h1
                exact owes_pure hI ho h2 h3
            · cases hc
          · cases hc
        · cases hc
      · cases hc
    · rename_i s x
      split at hc
      · rename_i xs hx
        obtain ⟨rfl, rfl⟩ := cast_eq hx
        split at hc
        · rename_i h0
          split at hc
          · rename_i h1
            cases hc
            generalize hx : a.eval i = x at *
            cases hp with
            | val h =>
              rename_i cs
              have hcs : cs = [mk (.slice e t) cs] := by
                obtain ⟨A, cap, rfl, _⟩ := h
                rfl
              rw [hcs] at h
              obtain ⟨z, h2, h3⟩ := eptr_ok (k := k) hI hU h h0 h1
              exact owes_pure hI ho h2 h3
          · cases hc
        · cases hc
      · cases hc
    · cases hc
  · cases hc
/-! ### Operators -/
theorem binOp2_ok (hE : EnvOk P E) {op : BinOp} {T : TypeId} {x y : SV} {p q : Value} {L : Lk} (hx : RV L γ x p) (hy : RV L γ y q) (h : binOp2 E op T x y ans = some (v, u)) :
    u = [] ∧ (∀ i j, (eqGuard op T i j p q).run P w = .ok () w) ∧ ∃ z, (binOp op T p q).run P w = .ok z w ∧ RV L γ v z := by
  have hgd : ∀ {p q : Value}, (∀ l, p ≠ .agg l) → (p = .nilIface → False) → ∀ i j, (eqGuard op T i j p q).run P w = .ok () w := by
    intro p q h1 h2 i j
    cases op <;> first | rfl | (cases p <;> first | rfl | exact absurd rfl (h1 _) | exact absurd rfl h2 | (cases q <;> rfl))
  unfold binOp2 at h
  split at h
  · rename_i k a k' b
    rw [val_int hx, val_int hy]
    have hx' : ∀ l, Value.int k a ≠ .agg l := fun l h => by cases h
    have hy' : Value.int k a = .nilIface → False := fun h => by cases h
    split at h
    · obtain ⟨h1, h2⟩ := shift_ok (T := T) (k' := k') (.inl rfl) h (P := P) (w := w) (L := L) (γ := γ)
      exact ⟨h1, hgd hx' hy', h2⟩
    · obtain ⟨h1, h2⟩ := shift_ok (T := T) (k' := k') (.inr rfl) h (P := P) (w := w) (L := L) (γ := γ)
      exact ⟨h1, hgd hx' hy', h2⟩
    · split at h
      · rename_i hk
        subst hk
        obtain ⟨h1, h2⟩ := binInt_ok (T := T) h (P := P) (w := w) (L := L) (γ := γ)
        exact ⟨h1, hgd hx' hy', h2⟩
      · cases h
  · rw [val_str hx, val_str hy]
    obtain ⟨h1, h2⟩ := binStr_ok (T := T) h (P := P) (w := w) (L := L) (γ := γ)
    exact ⟨h1, hgd (fun l h => by cases h) (fun h => by cases h), h2⟩
  · rw [val_bool hx, val_bool hy]
    refine ⟨?_, hgd (fun l h => by cases h) (fun h => by cases h), ?_⟩
    · split at h <;> cases h <;> rfl
    · split at h
      · rename_i hT
        cases h
        have hu : P.underlying T = some .bool := (nth_ok hE hT).1
        exact ⟨_, run_eql_bool w T _ _ hu, bool_val⟩
      · rename_i hT
        cases h
        have hu : P.underlying T = some .bool := (nth_ok hE hT).1
        exact ⟨_, run_neq_bool w T _ _ hu, bool_val⟩
      · cases h
  · rename_i s a s' b
    split at h
    · rename_i t hT
      obtain ⟨⟨s0, rfl⟩, hg, heq⟩ := hE.eqs T t hT
      split at h
      · rename_i a' b' ha hb
        obtain ⟨he, rfl⟩ := cast_eq ha
        cases he
        obtain ⟨he, rfl⟩ := cast_eq hb
        cases he
        cases h
        cases hx with
        | val hx =>
        cases hy with
        | val hy =>
        have := heq L _ _ _ _ w hx hy
        refine ⟨rfl, fun i j => run_eqGuard_agg w .eql T i j _ _ hg, _, ?_, bool_val⟩
        show (binOp .eql T (.agg _) (.agg _)).run P w = _
        rw [run_eql_struct]
        have this : (Op.equalIn 10000 T (.agg _) (.agg _)).run P w = _ := this
        rw [this]
        rfl
      · rename_i a' b' ha hb
        obtain ⟨he, rfl⟩ := cast_eq ha
        cases he
        obtain ⟨he, rfl⟩ := cast_eq hb
        cases he
        cases h
        cases hx with
        | val hx =>
        cases hy with
        | val hy =>
        have := heq L _ _ _ _ w hx hy
        refine ⟨rfl, fun i j => run_eqGuard_agg w .neq T i j _ _ hg, _, ?_, bool_val⟩
        show (binOp .neq T (.agg _) (.agg _)).run P w = _
        rw [run_neq_struct]
        have this : (Op.equalIn 10000 T (.agg _) (.agg _)).run P w = _ := this
        rw [this]
        rfl
      · cases h
    · cases h
  · cases h
theorem op_binOp (H : Ahead P E call w0 X Pr0 sl get γ Pr a w res r0 o vs v u) {op : BinOp} {T T' : TypeId} {i j : Operand} (hop : o.op = .binOp op T i j T') : Done P w0 X Pr0 sl get γ Pr a w r0 o v u := by
  obtain ⟨hE, hI, hk, hfr, hv, hc⟩ := H
  rw [hop] at hv
  obtain ⟨p, q, rfl, hp, hq⟩ := RVs_two hv
  unfold core at hc
  simp only [hop] at hc
  have ho : execOp a.eval o = (do pure (.value (← (do eqGuard op T i j (a.eval i) (a.eval j); binOp op T (a.eval i) (a.eval j))))) := by simp only [execOp, hop]
  obtain ⟨rfl, hg, z, h3, h4⟩ := binOp2_ok (w := w) hE hp hq hc
  refine owes_pure hI ho ?_ h4
  have hg := hg i j
  simp only [Sem.run_bind, hg, Result.andThen_ok, h3]
end
end Go.Proofs.Ytcfnhfbaakflgaa.Abs
