/- Stores. -/
import Derived.Test.YtcfnhfbaakflgaaAbsCore3
set_option linter.unusedVariables false
set_option linter.unusedSimpArgs false
set_option linter.unusedSectionVars false
namespace Go.Proofs.Ytcfnhfbaakflgaa.Abs
open Go Go.RowKit

section
variable {P : Program} {w : World}
theorem store_run {T : TypeId} {s : Ty} {c : List Value} {b o : Nat} {arr : Array Value} {T' : TypeId} (hT : InfoOk P T s) (hl : c.length = s.sz) (hc : (mk s c).cells = c.toArray) (h1 : ∀ v ∈ c, v.oneCell' = true)
    (hh : w.heap[b]? = some (.cells arr T' (0, 0))) (hle : o + c.length ≤ arr.size) : (Instr.storeAt T (.pointer (some ⟨b, o, none⟩)) (mk s c)).run P w = .ok () (w.setRow b (splice arr.toList o c).toArray) := by
  simp only [Instr.storeAt, Instr.sureAddr, Sem.run_bind, Sem.run_pure, Result.andThen_ok, storeVar, hT.sizeOf, hc]
  rw [if_neg (by simp [hl])]
  have := run_storeCells_at P b o T' c 0 arr w hh (by simpa using hle) h1
  simp only [Nat.add_zero] at this
  exact this
theorem setRow_grown (b : Nat) (cs : Array Value) : w.grownBy (w.setRow b cs) (some b) := ⟨rfl, rfl, rfl, by simp, fun k _ hk => setRow_other w b k cs (fun e => hk (by simp [e]))⟩
theorem flatten_splice : ∀ {css : List (List Value)} {n : Nat}, (∀ c ∈ css, c.length = n) → ∀ {i o : Nat} {c d : List Value}, css[i]? = some c → o + d.length ≤ n → (css.set i (splice c o d)).flatten = splice css.flatten (i * n + o) d
  | [], n, _, i, o, c, d, h, _ => by simp at h
  | c0 :: css, n, hl, 0, o, c, d, h, ho => by
    simp at h
    subst h
    have h0 : c0.length = n := hl _ (by simp)
    simp only [List.set_cons_zero, List.flatten_cons, Nat.zero_mul, Nat.zero_add, splice]
    rw [List.take_append_of_le_length (by omega), List.drop_append_of_le_length (by omega)]
    simp
  | c0 :: css, n, hl, i + 1, o, c, d, h, ho => by
    have h0 : c0.length = n := hl _ (by simp)
    rw [List.set_cons_succ, List.flatten_cons, List.flatten_cons, flatten_splice (fun c hc => hl c (List.mem_cons_of_mem _ hc)) (by simpa using h) ho]
    rw [Nat.succ_mul, show i * n + n + o = c0.length + (i * n + o) by omega, splice_right]
end
section
variable {P : Program} {E : Env} {call : (I : FnI) → List SV → Tab → Option (I.sh.den × I.bx.den)} {w0 : World} {X : Nat → Prop} {Pr0 : Nat → Nat → Prop} {sl : List SV} {get : Nat → Option Res} {γ : Nat → Option G} {Pr : Nat → Nat → Prop}
  {a : Act} {w : World} {res : Tab} {r0 : Nat} {o : Oper} {vs : List SV} {v : SV} {u : Up}
theorem owes_skip {get' : Nat → Option Res} {Pr' : Nat → Nat → Prop} {w' : World} (hI : Inv w0 X Pr0 sl get' γ Pr' a w') (ho : (execOp a.eval o).run P w = .ok .skip w') : Owes P w0 X Pr0 o sl get γ Pr r0 a w .undef get' := fun next Q h => by
  unfold Oper.wp
  rw [ho]
  exact h undef γ Pr' w' .undef hI (fun _ _ => rfl)
theorem owes_skip2 {get' : Nat → Option Res} {γ' : Nat → Option G} {Pr' : Nat → Nat → Prop} {w' : World} (hI : Inv w0 X Pr0 sl get' γ' Pr' a w') (ho : (execOp a.eval o).run P w = .ok .skip w') (hγ : ∀ r, ¬ (r0 ≤ r ∧ r < r0 + 64) → γ' r = γ r) : Owes P w0 X Pr0 o sl get γ Pr r0 a w .undef get' := fun next Q h => by
  unfold Oper.wp
  rw [ho]
  exact h undef γ' Pr' w' .undef hI hγ
theorem offP_wf : ∀ {t : Ty} {p : List Nat} {o : Nat} {s : Ty}, offP t p = some (o, s) → o + s.sz ≤ t.sz
  | t, [], o, s, h => by
    have : (0, t) = (o, s) := by cases t <;> simpa [offP] using h
    cases this
    omega
  | .agg t, f :: p, o, s, h => by
    simp only [offP, Option.bind_eq_some_iff, Option.map_eq_some_iff] at h
    obtain ⟨q, hq, q', hq', he⟩ := h
    cases he
    have h1 := offP_wf hq'
    have h2 := offF_add hq
    simp only [Ty.sz]
    omega
  | .int _, _ :: _, _, _, h => by simp [offP] at h
  | .bool, _ :: _, _, _, h => by simp [offP] at h
  | .str, _ :: _, _, _, h => by simp [offP] at h
  | .unit, _ :: _, _, _, h => by simp [offP] at h
  | .pair _ _, _ :: _, _, _, h => by simp [offP] at h
  | .slice _ _, _ :: _, _, _, h => by simp [offP] at h
theorem place_some : ∀ {l : List Nat} {n k : Nat}, n ∈ l → ∃ j, place n l k = some j
  | [], _, _, h => by simp at h
  | x :: l, n, k, h => by
    unfold place
    by_cases hx : x = n
    · subst hx
      simp
    · have : Nat.beq x n = false := by
        cases hb : Nat.beq x n with
        | false => rfl
        | true => exact absurd (Nat.eq_of_beq_eq_true hb) hx
      rw [this]
      rcases List.mem_cons.1 h with h | h
      · exact absurd h.symm hx
      · exact place_some h
theorem not_has {l : List Nat} {n : Nat} (h : hasN l n = false) : n ∉ l := by
  intro hn
  obtain ⟨j, hj⟩ := place_some (k := 0) hn
  simp [hasN, hj] at h
theorem Els_set {L : Lk} {t : Ty} {xs : List t.den} {css : List (List Value)} {i : Nat} {y : t.den} {c : List Value} (h : Els L t xs css) (hy : RK L t y c) : Els L t (xs.set i y) (css.set i c) := by
  refine ⟨by rw [List.length_set, List.length_set, h.1], fun j hj hj' => ?_⟩
  rw [List.getElem_set, List.getElem_set]
  by_cases hij : i = j
  · rw [if_pos hij, if_pos hij]
    exact hy
  · rw [if_neg hij, if_neg hij]
    exact h.2 j (by rw [List.length_set] at hj; exact hj) (by rw [List.length_set] at hj'; exact hj')
theorem splice_take {cs c : List Value} {o k : Nat} (h : o + c.length ≤ k) : (splice cs o c).take k = splice (cs.take k) o c := by
  unfold splice
  apply List.ext_getElem?
  intro j
  simp only [List.getElem?_take, List.append_assoc, List.getElem?_append, List.length_take, List.getElem?_drop, List.length_append]
  by_cases h1 : j < k
  · rw [if_pos h1]
    have e1 : min o (min k cs.length) = min o cs.length := by omega
    rw [e1]
    by_cases h2 : j < min o cs.length
    · rw [if_pos h2, if_pos h2, if_pos (by omega), if_pos (by omega), if_pos h1]
    · rw [if_neg h2, if_neg h2]
      by_cases h3 : j - min o cs.length < c.length
      · rw [if_pos h3, if_pos h3]
      · rw [if_neg h3, if_neg h3]
        by_cases h4 : o + c.length + (j - min o cs.length - c.length) < k
        · rw [if_pos h4]
        · rw [if_neg h4]
          apply List.getElem?_eq_none
          omega
  · rw [if_neg h1]
    by_cases h2 : j < min o (min k cs.length)
    · omega
    · rw [if_neg h2]
      by_cases h3 : j - min o (min k cs.length) < c.length
      · omega
      · rw [if_neg h3, if_neg (by omega)]
theorem op_store (H : Ahead P E call w0 X Pr0 sl get γ Pr a w res r0 o vs v u) {T : TypeId} {i j : Operand} (hop : o.op = .store T i j) : Done P w0 X Pr0 sl get γ Pr a w r0 o v u := by
  obtain ⟨hE, hI, hk, hfr, hv, hc⟩ := H
  rw [hop] at hv
  obtain ⟨p, q, rfl, hp, hq⟩ := RVs_two hv
  unfold core at hc
  simp only [hop] at hc
  have ho : execOp a.eval o = (do Instr.storeAt T (a.eval i) (a.eval j); pure .skip) := by simp only [execOp, hop]
  split at hc
  · rename_i t r s path hT
    split at hc
    · rename_i hst
      subst hst
      split at hc
      · rename_i bt c hg
        split at hc
        · rename_i v' u' m hf hgr
          split at hc
          rotate_left
          · cases hc
          rename_i c' hset hm
          cases hc
          have hm := Nat.le_of_ble_eq_true hm
          have hi := (nth_ok hE hT).2
          obtain ⟨cs, hx, hrt0⟩ := fits_RV (hI.tys hk) hq hf
          have e1 : (ground s q r0).1 = v' := by rw [hgr]
          have e2 : (ground s q r0).2.1 = u' := by rw [hgr]
          have e3 : (ground s q r0).2.2 = m := by rw [hgr]
          have hgr0 := hk r _ hg
          obtain ⟨γ', t', hI', hrt, hγ, hty⟩ := (ground_ok s).1 q r0 s cs get γ hI (fun r h1 h2 => hfr r h1 (by omega)) hrt0
          have := hty rfl
          subst this
          rw [e1] at hrt
          rw [e2] at hI'
          have hrin : ¬ (r0 ≤ r ∧ r < m) := fun h => by
            obtain ⟨g, hgγ⟩ := (hI.res r _ hgr0).γsome
            rw [hfr r h.1 (by omega)] at hgγ
            cases hgγ
          have hγr : γ' r = γ r := hγ r (fun h => hrin ⟨h.1, by omega⟩)
          have hkr : updG get u' r = some (.box bt c) := by
            rw [updG_not (fun p hp => ?_)]
            · exact hgr0
            · have := (ground_keys t').1 q r0 p (by rw [e2]; exact hp)
              exact fun e => hrin (by rw [e, e3] at this; exact this)
          have hk : ∀ r x, r = r → getR res r = some x → True := fun _ _ _ _ => trivial
          have hfar : ∀ r, ¬ (r0 ≤ r ∧ r < r0 + 64) → γ' r = γ r := fun r h => hγ r (fun h' => h ⟨h'.1, by omega⟩)
          obtain ⟨b, arr, T', hb, hh, hr⟩ := hI'.res r _ hkr
          generalize hy : a.eval i = y at *
          cases hp with
          | ptr h hp' =>
            rename_i b1 off t1
            rw [← hγr, hb] at h
            cases h
            have hwf : WfB false bt = true := hI'.wfs r _ _ hb
            obtain ⟨h1, h2⟩ := svSetP_ok hwf hr hp' hrt hset
            have hrun := store_run (P := P) (w := w) (o := off) hi (RT_len hrt) (RT_cells hI'.gs hrt hi.one) (RT_one hI'.gs hrt) hh (by simpa using h2)
            have hbb : blk γ' r (.box bt c) = some b := by simp [blk, hb]
            have hbb' : blk γ' r (.box bt c') = some b := by simp [blk, hb]
            have hnl : ∀ o, ¬ Pr b o := fun o ho => hI'.loose r _ b hkr hbb o ho
            have hcell : ∀ b1 o1 v1, some b = some b1 → Pr b1 o1 → w.cell? ⟨b1, o1, none⟩ = some v1 → (w.setRow b (splice arr.toList off cs).toArray).cell? ⟨b1, o1, none⟩ = some v1 := fun b1 o1 v1 he ho => by
              cases he
              exact absurd ho (hnl _)
            refine owes_skip2 (get' := updG get (u' ++ [(r, some (.box bt c'))])) (γ' := γ') (Pr' := Pr) (w' := w.setRow b (splice arr.toList off cs).toArray) ?_ ?_ hfar
            · rw [updG_append]
              refine hI'.turn r (some (.box bt c')) (some b) (setRow_grown b _) (fun _ _ h => h) (fun _ _ => rfl) (fun e t v h => hI'.gs r e t v h) (fun b t h => hI'.wfs r b t h) ?_ (fun _ _ h => h) (fun b o h => .inl h) hcell ?_ ?_
              · intro b1 he
                cases he
                exact ⟨hI'.where_ r _ b hkr hbb, fun r' x hne hx => hI'.apart r r' _ x b hkr hx (fun e => hne e.symm) hbb⟩
              · intro x he
                cases he
                refine ⟨b, _, T', hb, setRow_heap w b arr _ T' (0, 0) hh, ?_⟩
                rw [List.toList_toArray]
                exact RT_mono (Ln_turn hI'.prIn (setRow_grown b _) (fun _ _ h => h) hcell) (fun _ _ h => h) h1
              · intro x b1 he hb1
                cases he
                rw [hbb'] at hb1
                cases hb1
                exact ⟨hI'.where_ r _ b hkr hbb, fun r' x hne hx => hI'.apart r r' _ x b hkr hx (fun e => hne e.symm) hbb, fun o ho => absurd ho (hnl o)⟩
            · rw [ho, hx]
              simp only [Sem.run_bind, hrun, Result.andThen_ok, Sem.run_pure]
        · cases hc
      · cases hc
    · cases hc
  · rename_i t r s0 n path hT
    split at hc
    · rename_i e t1 xs hg
      split at hc
      · rename_i x hnot hx
        split at hc
        · rename_i y hput
          cases hc
          have hi := (nth_ok hE hT).2
          obtain ⟨Pr', hI', hP, hR, hsame, _⟩ := freeze_read hI hk (rowsIn 9 q)
          have hL : ∀ b o v, Ln Pr w b o v → Ln Pr' w b o v := fun b o v h => ⟨hP _ _ h.1, h.2⟩
          have hrn : r ∉ rowsIn 9 q := not_has hnot
          have hgr : updG get (freeze res (rowsIn 9 q)) r = some (.row e t1 xs false) := (hsame r hrn).trans (hk r _ hg)
          obtain ⟨c, hz, hrk⟩ := toVal_RV hR (d' := 9) (by omega) (fun r hr => hr) (RV_mono hL (fun _ _ h => h) hq) hx
          generalize hy : a.eval i = z at *
          cases hp with
          | rptr h h0 hn hp' =>
            rename_i b m cap off e1 t2
            obtain ⟨v1, css, hv1, hels, hown, _⟩ := hI'.res r _ hgr
            rw [h] at hv1
            cases hv1
            have hown' := hown
            rcases hown.2 with ⟨hnil, _⟩ | ⟨g, cap', cur, hs, _, hh, hnc, hcm, hcs, htake⟩
            · cases hnil
            · cases hs
              have hin : n.toNat < xs.length := by omega
              have hic : n.toNat < css.length := by rw [hels.1]; exact hin
              have he := hels.2 _ hin hic
              have hD : xs.getD n.toNat t1.dflt = xs[n.toNat] := by rw [List.getD_eq_getElem?_getD, List.getElem?_eq_getElem hin, Option.getD_some]
              rw [hD] at hput
              obtain ⟨h1, h2⟩ := putP_ok (L := Ln Pr' w) (s := s0) (c := c) (u := fun s => cast? s x) (fun y' hy' => by
                obtain ⟨rfl, rfl⟩ := cast_eq hy'
                exact hrk) hput hp' he
              have hcl : (css[n.toNat]).length = t1.sz := hels.lens _ (List.getElem_mem hic)
              have hmul : (n.toNat + 1) * t1.sz ≤ xs.length * t1.sz := Nat.mul_le_mul_right _ hin
              have hmul2 : xs.length * t1.sz ≤ cap * t1.sz := Nat.mul_le_mul_right _ hnc
              rw [Nat.succ_mul] at hmul
              have hrun := store_run (P := P) (w := w) (o := n.toNat * t1.sz + off) hi (RK_len hrk) (RK_cells hrk hi.one) (RK_one hrk) hh (by omega)
              have hfl := flatten_splice hels.lens (List.getElem?_eq_getElem hic) (o := off) (d := c) (by omega)
              have hbb : blk γ r (.row e t1 xs false) = some b := by simp [blk, h, Value.ownBlock]
              have hnl : ∀ o, ¬ Pr' b o := fun o ho => hI'.loose r _ b hgr hbb o ho
              have hcell : ∀ b1 o1 v1, some b = some b1 → Pr' b1 o1 → w.cell? ⟨b1, o1, none⟩ = some v1 → (w.setRow b (splice cur.toList (n.toNat * t1.sz + off) c).toArray).cell? ⟨b1, o1, none⟩ = some v1 := fun b1 o1 v1 he ho => by
                cases he
                exact absurd ho (hnl _)
              have hflen : css.flatten.length = xs.length * t1.sz := hels.flat
              refine owes_skip (w' := w.setRow b (splice cur.toList (n.toNat * t1.sz + off) c).toArray) (Pr' := Pr') ?_ ?_
              · rw [updG_append]
                refine hI'.turn r (some (.row e t1 (xs.set n.toNat y) false)) (some b) (setRow_grown b _) (fun _ _ h => h) (fun _ _ => rfl) (fun e t v h => hI.gs r e t v h) (fun b t h => hI.wfs r b t h) ?_ (fun _ _ h => h) (fun b o h => .inl h) hcell ?_ ?_
                · intro b1 he
                  cases he
                  exact ⟨hI'.where_ r _ b hgr hbb, fun r' x hne hx => hI'.apart r r' _ x b hgr hx (fun e => hne e.symm) hbb⟩
                · intro x' hx'
                  cases hx'
                  refine ⟨_, css.set n.toNat (splice css[n.toNat] off c), h, Els_mono (Ln_turn hI'.prIn (setRow_grown b _) (fun _ _ h => h) hcell) (Els_set hels h1), ?_, fun h => by cases h⟩
                  have hle : n.toNat * t1.sz + off + c.length ≤ xs.length * t1.sz := by omega
                  rw [hfl, List.length_set]
                  refine ⟨by rw [splice_len (by rw [hflen]; exact hle)]; exact hflen, .inr ⟨b, cap, _, rfl, Nat.zero_le _, setRow_heap w b cur _ e (0, 0) hh, hnc, hcm, ?_, ?_⟩⟩
                  · have hsl : (splice cur.toList (n.toNat * t1.sz + off) c).length = cur.toList.length := splice_len (by rw [Array.length_toList (xs := cur), hcs]; exact Nat.le_trans hle hmul2)
                    rw [List.size_toArray, hsl, Array.length_toList (xs := cur)]
                    exact hcs
                  · rw [List.toList_toArray, splice_take hle, htake]
                · intro x' b1 hx' hb1
                  cases hx'
                  have : b1 = b := by simpa [blk, h, Value.ownBlock] using hb1.symm
                  subst this
                  exact ⟨hI'.where_ r _ b1 hgr hbb, fun r' x hne hx => hI'.apart r r' _ x b1 hgr hx (fun e => hne e.symm) hbb, fun o ho => absurd ho (hnl o)⟩
              · rw [ho, hz]
                simp only [Sem.run_bind, hrun, Result.andThen_ok, Sem.run_pure]
        · cases hc
      · cases hc
    · cases hc
  · cases hc
end
end Go.Proofs.Ytcfnhfbaakflgaa.Abs
