/- Does a slot's content fit a variable? Records are laid out and closed up; fields are put. -/
import Derived.Test.YtcfnhfbaakflgaaAbsRead
set_option linter.unusedVariables false
set_option linter.unusedSimpArgs false
namespace Go.Proofs.Ytcfnhfbaakflgaa.Abs
open Go Go.RowKit

/-- The table's rows have the types that stand in it. -/
def RowTy (γ : Nat → Option G) (res : Tab) : Prop := ∀ r e t xs, ((∃ fr, getR res r = some (.row e t xs fr)) ∨ getR res r = some (.old e t xs)) → ∃ v, γ r = some (.row e t v)
section
variable {L : Lk} {γ : Nat → Option G} {res : Tab}
theorem fits_row {d : Nat} {t : Ty} {r : Nat} (h : fits res (d + 1) t (.row r) = true) : ∃ e s, ((∃ xs fr, getR res r = some (.row e s xs fr)) ∨ ∃ xs, getR res r = some (.old e s xs)) ∧ Ty.slice e s = t := by
  have h' : (match getR res r with
    | some (.row e s _ _) => decide (Ty.slice e s = t)
    | some (.old e s _) => decide (Ty.slice e s = t)
    | _ => false) = true := by
    cases t <;> exact h
  split at h'
  · exact ⟨_, _, .inl ⟨_, _, by assumption⟩, of_decide_eq_true h'⟩
  · exact ⟨_, _, .inr ⟨_, by assumption⟩, of_decide_eq_true h'⟩
  · cases h'
theorem fits_go {g : Ty → SV → Bool} (hg : ∀ {a s : Ty} {v : SV} {c : List Value}, RT L γ s v c → g a v = true → RT L γ a v c) : ∀ {t s : Ty} {l : List SV} {cs : List Value}, RTs L γ s l cs → fits.go g t l = true → RTs L γ t l cs
  | t, _, _, _, .nil, h => by
    cases t <;> simp only [fits.go] at h <;> first | (cases h; done) | exact .nil
  | t, _, _, _, .cons hv k, h => by
    cases t <;> simp only [fits.go, Bool.and_eq_true] at h <;> try (cases h; done)
    exact .cons (hg hv h.1) (fits_go hg k h.2)
theorem fits_RT (hr : RowTy γ res) : ∀ (d : Nat) {t s : Ty} {v : SV} {cs : List Value}, RT L γ s v cs → fits res d t v = true → RT L γ t v cs := by
  intro d
  induction d with
  | zero => intro t s v cs _ h; simp [fits] at h
  | succ d ih =>
    intro t s v cs hv h
    cases hv with
    | val hk =>
      simp only [fits, decide_eq_true_eq] at h
      subst h
      exact .val hk
    | nilS =>
      cases t <;> simp only [fits] at h <;> try (cases h; done)
      exact .nilS
    | row hk =>
      rename_i e s' r v'
      obtain ⟨e', s2, hh, rfl⟩ := fits_row h
      have : ∃ v, γ r = some (.row e' s2 v) := by
        rcases hh with ⟨xs, fr, hh⟩ | ⟨xs, hh⟩
        · exact hr r e' s2 xs (.inl ⟨fr, hh⟩)
        · exact hr r e' s2 xs (.inr hh)
      obtain ⟨v2, hv2⟩ := this
      rw [hk] at hv2
      cases hv2
      exact .row hk
    | strct hk =>
      cases t <;> simp only [fits] at h <;> try (cases h; done)
      exact .strct (fits_go (fun hv hh => ih hv hh) hk h)
theorem fits_RV (hr : RowTy γ res) {d : Nat} {t : Ty} {v : SV} {u : Value} (hv : RV L γ v u) (h : fits res d t v = true) : ∃ cs, u = mk t cs ∧ RT L γ t v cs := by
  cases d with
  | zero => simp [fits] at h
  | succ d =>
    cases hv with
    | undef => simp [fits] at h
    | ptr => simp [fits] at h
    | eptr => simp [fits] at h
    | rptr => simp [fits] at h
    | tail => simp [fits] at h
    | fn => simp [fits] at h
    | tup => simp [fits] at h
    | nilS =>
      cases t <;> simp only [fits] at h <;> try (cases h; done)
      exact ⟨_, rfl, .nilS⟩
    | val hk =>
      simp only [fits, decide_eq_true_eq] at h
      subst h
      exact ⟨_, rfl, .val hk⟩
    | row hk =>
      have := fits_RT hr (d + 1) (RT.row (L := L) hk) h
      obtain ⟨e', s2, hh, rfl⟩ := fits_row h
      exact ⟨_, rfl, this⟩
    | strct hk =>
      have := fits_RT hr (d + 1) (RT.strct hk) h
      cases t <;> simp only [fits] at h <;> try (cases h; done)
      exact ⟨_, rfl, this⟩
theorem spread_ok {t : Ty} {v : SV} {cs : List Value} (h : RT L γ t v cs) (hf : ∀ u, t = .agg u → Flds u) : RT L γ t (spread v) cs := by
  cases h with
  | @val t x cs hk =>
    cases t <;> simp only [spread] <;> first | exact .val hk | exact .strct (fieldsOf_ok hk (hf _ rfl))
  | nilS => exact .nilS
  | row h => exact .row h
  | strct h => exact .strct h
theorem closeUp_ok {t s : Ty} {l : List SV} {cs : List Value} {v : SV} (h : RTs L γ s l cs) (hc : closeUp t l = some v) : RV L γ v (.agg cs.toArray) ∧ ((∃ x, v = .val (.agg t) x ∧ RK L t x cs) ∨ v = .strct l) := by
  unfold closeUp at hc
  split at hc
  · simp only [Option.bind_eq_some_iff] at hc
    obtain ⟨x, hx, he⟩ := hc
    cases he
    have hr : RowsOk L γ [] (fun _ => True) := by
      intro r e t xs _ h
      rcases h with ⟨fr, h⟩ | h <;> simp [getR] at h
    have hk : RK L t x cs := toPairs_ok (fun _ => True) (fun _ ht hx => toVal_RT hr 9 9 (Nat.le_refl _) (fun _ _ => trivial) ht hx) (fun _ _ => trivial) h hx
    exact ⟨RV.val (t := .agg t) hk, .inl ⟨x, rfl, hk⟩⟩
  · cases hc
    exact ⟨.strct h, .inr rfl⟩
theorem Wf_flds : ∀ {t : Ty}, WfB true t = true → Flds t
  | .pair a b, h => by
    simp only [WfB, Bool.and_eq_true] at h
    exact Wf_flds (t := b) h.2
  | .unit, _ => trivial
  | .int _, h => by simp [WfB] at h
  | .bool, h => by simp [WfB] at h
  | .str, h => by simp [WfB] at h
  | .agg _, h => by simp [WfB] at h
  | .slice _ _, h => by simp [WfB] at h
theorem RK_dflt : ∀ (t : Ty), RK L t t.dflt (zc t)
  | .int k => rfl
  | .bool => rfl
  | .str => rfl
  | .unit => rfl
  | .pair a b => ⟨_, _, rfl, RK_dflt a, RK_dflt b⟩
  | .agg t => RK_dflt t
  | .slice e t => ⟨none, 0, rfl, Nat.le_refl _, fun h => absurd rfl h⟩
theorem dflt_ok : ∀ (t : Ty), (WfB false t = true → RT L γ t (dfltSV t) (zc t)) ∧ (WfB true t = true → RTs L γ t (dfltSV.go t) (zc t))
  | .int k => ⟨fun _ => .val rfl, fun h => by simp [WfB] at h⟩
  | .bool => ⟨fun _ => .val rfl, fun h => by simp [WfB] at h⟩
  | .str => ⟨fun _ => .val rfl, fun h => by simp [WfB] at h⟩
  | .unit => ⟨fun h => by simp [WfB] at h, fun _ => .nil⟩
  | .pair a b => ⟨fun h => by simp [WfB] at h, fun h => by
      simp only [WfB, Bool.and_eq_true] at h
      exact .cons ((dflt_ok a).1 h.1) ((dflt_ok b).2 h.2)⟩
  | .agg t => ⟨fun h => .strct ((dflt_ok t).2 h), fun h => by simp [WfB] at h⟩
  | .slice e t => ⟨fun _ => .nilS, fun h => by simp [WfB] at h⟩

/-! ### Fields put -/
/-- Cells with others in their midst. -/
def splice (cs : List Value) (o : Nat) (c : List Value) : List Value := cs.take o ++ c ++ cs.drop (o + c.length)
theorem splice_left {c d e : List Value} (h : c.length = d.length) : splice (c ++ e) 0 d = d ++ e := by
  simp [splice, ← h]
theorem splice_right {c d e : List Value} {o : Nat} : splice (c ++ d) (c.length + o) e = c ++ splice d o e := by
  simp only [splice, List.take_append, List.drop_append, Nat.add_assoc, Nat.add_sub_cancel_left, List.append_assoc]
  rw [List.take_of_length_le (by omega), List.drop_eq_nil_of_le (by omega)]
  simp
theorem RTs_put : ∀ {t : Ty} {l : List SV} {cs : List Value}, RTs L γ t l cs → ∀ {f : Nat} {o : Nat} {s : Ty} {v : SV} {c : List Value}, offF t f = some (o, s) → RT L γ s v c → RTs L γ t (l.set f v) (splice cs o c)
  | _, _, _, .nil, f, o, s, v, c, h, _ => by simp [offF] at h
  | _, _, _, .cons (d := d) hv k, 0, o, s, v, c, h, hc => by
    simp only [offF, Option.some.injEq, Prod.mk.injEq] at h
    obtain ⟨rfl, rfl⟩ := h
    rw [splice_left ((RT_len hv).trans (RT_len hc).symm)]
    exact .cons hc k
  | _, _, _, .cons (d := d) hv k, f + 1, o, s, v, c, h, hc => by
    simp only [offF, Option.map_eq_some_iff] at h
    obtain ⟨q, hq, he⟩ := h
    cases he
    rw [← RT_len hv, splice_right]
    exact .cons hv (RTs_put k hq hc)
theorem Wf_offF : ∀ {t : Ty} {f o : Nat} {s : Ty}, WfB true t = true → offF t f = some (o, s) → WfB false s = true
  | .pair a b, 0, o, s, h, ho => by
    simp only [WfB, Bool.and_eq_true] at h
    cases ho
    exact h.1
  | .pair a b, f + 1, o, s, h, ho => by
    simp only [WfB, Bool.and_eq_true] at h
    simp only [offF, Option.map_eq_some_iff] at ho
    obtain ⟨q, hq, he⟩ := ho
    cases he
    exact Wf_offF (t := b) h.2 hq
  | .unit, _, _, _, _, ho => by simp [offF] at ho
  | .int _, _, _, _, h, _ => by simp [WfB] at h
  | .bool, _, _, _, h, _ => by simp [WfB] at h
  | .str, _, _, _, h, _ => by simp [WfB] at h
  | .agg _, _, _, _, h, _ => by simp [WfB] at h
  | .slice _ _, _, _, _, h, _ => by simp [WfB] at h
theorem splice_len {cs c : List Value} {o : Nat} (h : o + c.length ≤ cs.length) : (splice cs o c).length = cs.length := by
  simp [splice]
  omega
theorem splice_get {cs c : List Value} {o : Nat} (h : o + c.length ≤ cs.length) (j : Nat) : (splice cs o c)[j]? = if o ≤ j ∧ j < o + c.length then c[j - o]? else cs[j]? := by
  unfold splice
  by_cases h1 : j < o
  · rw [if_neg (by omega), List.append_assoc, List.getElem?_append_left (by simp; omega), List.getElem?_take, if_pos h1]
  · by_cases h2 : j < o + c.length
    · rw [if_pos ⟨by omega, h2⟩, List.append_assoc, List.getElem?_append_right (by simp; omega)]
      rw [List.getElem?_append_left (by simp; omega)]
      congr 1
      simp
      omega
    · rw [if_neg (by omega), List.getElem?_append_right (by simp; omega), List.getElem?_drop]
      congr 1
      simp
      omega
theorem splice_in {cs c1 c : List Value} {o o' : Nat} (h : Sits c1 cs o) (hl : o + c1.length ≤ cs.length) (h' : o' + c.length ≤ c1.length) : splice cs o (splice c1 o' c) = splice cs (o + o') c := by
  apply List.ext_getElem?
  intro j
  rw [splice_get (by rw [splice_len h']; exact hl), splice_len h']
  by_cases h1 : o ≤ j ∧ j < o + c1.length
  · rw [if_pos h1, splice_get h']
    rw [splice_get (cs := cs) (c := c) (o := o + o') (by omega)]
    by_cases h2 : o' ≤ j - o ∧ j - o < o' + c.length
    · rw [if_pos h2, if_pos (by omega)]
      congr 1
      omega
    · rw [if_neg h2, if_neg (by omega)]
      have := h (j - o) _ (List.getElem?_eq_getElem (by omega))
      rw [List.getElem?_eq_getElem (by omega), ← this]
      congr 1
      omega
  · rw [if_neg h1, splice_get (cs := cs) (c := c) (o := o + o') (by omega), if_neg (by omega)]
theorem svSetP_ok : ∀ {p : List Nat} {t : Ty} {v u z : SV} {cs : List Value} {o : Nat} {s : Ty} {c : List Value}, WfB false t = true → RT L γ t v cs → offP t p = some (o, s) → RT L γ s u c → svSetP p v u = some z → RT L γ t z (splice cs o c) ∧ o + c.length ≤ cs.length
  | [], t, v, u, z, cs, o, s, c, hwf, hv, ho, hu, h => by
    have : (0, t) = (o, s) := by cases t <;> simpa [offP] using ho
    cases this
    cases h
    have h1 : splice cs 0 c = c := by
      have := RT_len hv
      have := RT_len hu
      simp [splice]
      omega
    rw [h1]
    refine ⟨spread_ok hu fun w hw => ?_, by have := RT_len hv; have := RT_len hu; omega⟩
    subst hw
    exact Wf_flds hwf
  | f :: p, t, v, u, z, cs, o, s, c, hwf, hv, ho, hu, h => by
    simp only [svSetP] at h
    have hsp := spread_ok hv (fun w hw => by subst hw; exact Wf_flds hwf)
    split at h
    · rename_i l hl
      simp only [Option.bind_eq_some_iff] at h
      obtain ⟨z1, h1, z2, h2, he⟩ := h
      cases he
      rw [hl] at hsp
      cases hsp with
      | @strct t' _ _ hk =>
        simp only [offP, Option.bind_eq_some_iff, Option.map_eq_some_iff] at ho
        obtain ⟨q, hq, q', hq', he⟩ := ho
        cases he
        obtain ⟨s1, o1, c1, h3, h4, h5⟩ := RTs_get hk h1
        rw [hq] at h3
        cases h3
        have hwf1 : WfB false s1 = true := Wf_offF hwf hq
        obtain ⟨h6, h7⟩ := svSetP_ok hwf1 h4 hq' hu h2
        have h8 := RTs_put hk hq h6
        have hl1 := offF_add hq
        have hlen1 : c1.length = s1.sz := RT_len h4
        have hlen : cs.length = t'.sz := RTs_len hk
        have h9 : splice cs o1 (splice c1 q'.1 c) = splice cs (o1 + q'.1) c := splice_in h5 (by omega) h7
        rw [h9] at h8
        exact ⟨.strct h8, by omega⟩
    · cases h
theorem putF_ok {c : List Value} {o2 : Nat} : ∀ {t : Ty} {x x' : t.den} {f o : Nat} {s : Ty} {g : (s : Ty) → s.den → Option s.den} {cs : List Value}, putF t x f g = some x' → offF t f = some (o, s) →
    (∀ y y' c', g s y = some y' → RK L s y c' → RK L s y' (splice c' o2 c) ∧ o2 + c.length ≤ c'.length) → RK L t x cs → RK L t x' (splice cs (o + o2) c) ∧ o + o2 + c.length ≤ cs.length
  | .pair a b, x, x', 0, o, s, g, cs, h, ho, hg, hk => by
    simp only [putF, Option.bind_eq_some_iff] at h
    obtain ⟨y, hy, he⟩ := h
    cases he
    cases ho
    obtain ⟨c1, d, rfl, h1, h2⟩ := hk
    obtain ⟨h3, h4⟩ := hg _ _ _ hy h1
    refine ⟨⟨splice c1 o2 c, d, ?_, h3, h2⟩, by rw [List.length_append]; omega⟩
    rw [Nat.zero_add]
    simp only [splice, List.append_assoc]
    rw [List.take_append_of_le_length (by omega), List.drop_append_of_le_length (by omega)]
  | .pair a b, x, x', f + 1, o, s, g, cs, h, ho, hg, hk => by
    simp only [putF, Option.bind_eq_some_iff] at h
    obtain ⟨y, hy, he⟩ := h
    cases he
    simp only [offF, Option.map_eq_some_iff] at ho
    obtain ⟨q, hq, he⟩ := ho
    cases he
    obtain ⟨c1, d, rfl, h1, h2⟩ := hk
    obtain ⟨h3, h4⟩ := putF_ok (t := b) hy hq hg h2
    have hl := RK_len h1
    refine ⟨⟨c1, splice d (q.1 + o2) c, ?_, h1, h3⟩, by rw [List.length_append]; omega⟩
    rw [Nat.add_assoc, ← hl, splice_right]
  | .int _, _, _, _, _, _, _, _, h, _, _, _ => by simp [putF] at h
  | .bool, _, _, _, _, _, _, _, h, _, _, _ => by simp [putF] at h
  | .str, _, _, _, _, _, _, _, h, _, _, _ => by simp [putF] at h
  | .unit, _, _, _, _, _, _, _, h, _, _, _ => by simp [putF] at h
  | .agg _, _, _, _, _, _, _, _, h, _, _, _ => by simp [putF] at h
  | .slice _ _, _, _, _, _, _, _, _, h, _, _, _ => by simp [putF] at h
theorem putP_ok {s : Ty} {c : List Value} {u : (s : Ty) → Option s.den} (hu : ∀ y, u s = some y → RK L s y c) : ∀ {p : List Nat} {t : Ty} {x x' : t.den} {o : Nat} {cs : List Value}, putP p t x u = some x' → offP t p = some (o, s) →
    RK L t x cs → RK L t x' (splice cs o c) ∧ o + c.length ≤ cs.length
  | [], t, x, x', o, cs, h, ho, hk => by
    have : (0, t) = (o, s) := by cases t <;> simpa [offP] using ho
    cases this
    have h1 := hu x' (by cases s <;> exact h)
    have h2 : splice cs 0 c = c := by
      have := RK_len hk
      have := RK_len h1
      simp [splice]
      omega
    rw [h2]
    exact ⟨h1, by have := RK_len hk; have := RK_len h1; omega⟩
  | f :: p, .agg t, x, x', o, cs, h, ho, hk => by
    simp only [offP, Option.bind_eq_some_iff, Option.map_eq_some_iff] at ho
    obtain ⟨q, hq, q', hq', he⟩ := ho
    cases he
    exact putF_ok (t := t) (x := x) (x' := x') (show putF t x f (fun s y => putP p s y u) = some x' from h) hq (fun y y' c' hy hk' => putP_ok hu hy hq' hk') hk
  | f :: p, .int _, _, _, _, _, h, _, _ => by simp [putP] at h
  | f :: p, .bool, _, _, _, _, h, _, _ => by simp [putP] at h
  | f :: p, .str, _, _, _, _, h, _, _ => by simp [putP] at h
  | f :: p, .unit, _, _, _, _, h, _, _ => by simp [putP] at h
  | f :: p, .pair _ _, _, _, _, _, h, _, _ => by simp [putP] at h
  | f :: p, .slice _ _, _, _, _, _, h, _, _ => by simp [putP] at h
end
end Go.Proofs.Ytcfnhfbaakflgaa.Abs
