/- Fields, paths, places: plain values and their cells. -/
import Derived.Test.YtcfnhfbaakflgaaAbsPure
set_option linter.unusedVariables false
set_option linter.unusedSimpArgs false
namespace Go.Proofs.Ytcfnhfbaakflgaa.Abs
open Go Go.RowKit

/-- Cells c stand in cs from place o on. -/
def Sits (c cs : List Value) (o : Nat) : Prop := ∀ j u, c[j]? = some u → cs[o + j]? = some u
theorem Sits.refl (c : List Value) : Sits c c 0 := fun j u h => by rwa [Nat.zero_add]
theorem Sits.trans {a b c : List Value} {o o' : Nat} (h : Sits a b o) (k : Sits b c o') : Sits a c (o' + o) := fun j u hj => by
  have := k _ _ (h j u hj)
  rwa [← Nat.add_assoc] at this
theorem Sits.left (c d : List Value) : Sits c (c ++ d) 0 := fun j u h => by
  have : j < c.length := (List.getElem?_eq_some_iff.1 h).1
  rw [Nat.zero_add, List.getElem?_append_left this]
  exact h
theorem Sits.right (c d : List Value) : Sits d (c ++ d) c.length := fun j u h => by
  rw [List.getElem?_append_right (by omega)]
  simpa using h

section
variable {L : Lk} {γ : Nat → Option G}
theorem getF_ok : ∀ {t : Ty} {x : t.den} {f : Nat} {v : SV}, getF t x f = some v → ∃ s y o, v = .val s y ∧ offF t f = some (o, s) ∧ ∀ cs, RK L t x cs → ∃ c, RK L s y c ∧ Sits c cs o
  | .pair a b, x, 0, v, h => by
    cases h
    refine ⟨a, x.1, 0, rfl, rfl, fun cs hr => ?_⟩
    obtain ⟨c, d, rfl, h1, h2⟩ := hr
    exact ⟨c, h1, Sits.left c d⟩
  | .pair a b, x, n + 1, v, h => by
    obtain ⟨s, y, o, hv, ho, hc⟩ := getF_ok (t := b) (x := x.2) (f := n) h
    refine ⟨s, y, a.sz + o, hv, by simp [offF, ho], fun cs hr => ?_⟩
    obtain ⟨c, d, rfl, h1, h2⟩ := hr
    obtain ⟨c', h3, h4⟩ := hc d h2
    refine ⟨c', h3, ?_⟩
    have := h4.trans (Sits.right c d)
    rwa [RK_len h1] at this
  | .int _, _, _, _, h => by simp [getF] at h
  | .bool, _, _, _, h => by simp [getF] at h
  | .str, _, _, _, h => by simp [getF] at h
  | .unit, _, _, _, h => by simp [getF] at h
  | .agg _, _, _, _, h => by simp [getF] at h
  | .slice _ _, _, _, _, h => by simp [getF] at h
theorem RTs_get : ∀ {t : Ty} {l : List SV} {cs : List Value}, RTs L γ t l cs → ∀ {f : Nat} {v : SV}, l[f]? = some v → ∃ s o c, offF t f = some (o, s) ∧ RT L γ s v c ∧ Sits c cs o
  | _, _, _, .nil, f, v, h => by simp at h
  | _, _, _, .cons (a := a) (c := c) (d := d) hv k, 0, v, h => by
    simp at h
    subst h
    exact ⟨a, 0, c, rfl, hv, Sits.left c d⟩
  | _, _, _, .cons (a := a) (c := c) (d := d) hv k, f + 1, v, h => by
    obtain ⟨s, o, c', h1, h2, h3⟩ := RTs_get k (f := f) (v := v) (by simpa using h)
    refine ⟨s, a.sz + o, c', by simp [offF, h1], h2, ?_⟩
    have := h3.trans (Sits.right c d)
    rwa [RT_len hv] at this
/-- A record's fields in a row. -/
def Flds : Ty → Prop
  | .pair _ b => Flds b
  | .unit => True
  | _ => False
theorem fieldsOf_ok : ∀ {t : Ty} {x : t.den} {cs : List Value}, RK L t x cs → Flds t → RTs L γ t (fieldsOf t x) cs
  | .pair a b, x, cs, h, hf => by
    obtain ⟨c, d, rfl, h1, h2⟩ := h
    exact .cons (.val h1) (fieldsOf_ok h2 hf)
  | .unit, x, cs, h, _ => by
    rw [show cs = [] from h]
    exact .nil
  | .int _, _, _, _, hf => hf.elim
  | .bool, _, _, _, hf => hf.elim
  | .str, _, _, _, hf => hf.elim
  | .agg _, _, _, _, hf => hf.elim
  | .slice _ _, _, _, _, hf => hf.elim
/-- One field of a slot's content. -/
theorem svGet_ok {t : Ty} {v u : SV} {f : Nat} {cs : List Value} (h : RT L γ t v cs) (hg : svGet v f = some u) : ∃ t' s o c, t = .agg t' ∧ offF t' f = some (o, s) ∧ RT L γ s u c ∧ Sits c cs o := by
  cases h with
  | @val t x cs hk =>
    cases t with
    | agg t' =>
      obtain ⟨s, y, o, rfl, ho, hc⟩ := getF_ok (L := L) (show getF t' x f = some u from hg)
      obtain ⟨c, h1, h2⟩ := hc cs hk
      exact ⟨t', s, o, c, rfl, ho, .val h1, h2⟩
    | _ => simp [svGet] at hg
  | @strct t' l cs hk =>
    obtain ⟨s, o, c, h1, h2, h3⟩ := RTs_get hk (show l[f]? = some u from hg)
    exact ⟨t', s, o, c, rfl, h1, h2, h3⟩
  | nilS => simp [svGet] at hg
  | row _ => simp [svGet] at hg
theorem svGetP_ok : ∀ {p : List Nat} {t : Ty} {v u : SV} {cs : List Value}, RT L γ t v cs → svGetP p v = some u → ∃ s o c, offP t p = some (o, s) ∧ RT L γ s u c ∧ Sits c cs o
  | [], t, v, u, cs, h, hg => by
    cases hg
    exact ⟨t, 0, cs, by cases t <;> rfl, h, Sits.refl cs⟩
  | f :: p, t, v, u, cs, h, hg => by
    simp only [svGetP, Option.bind_eq_some_iff] at hg
    obtain ⟨z, hz, hp⟩ := hg
    obtain ⟨t', s, o, c, rfl, h1, h2, h3⟩ := svGet_ok h hz
    obtain ⟨s', o', c', h4, h5, h6⟩ := svGetP_ok h2 hp
    exact ⟨s', o + o', c', by simp [offP, h1, h4], h5, h6.trans h3⟩
theorem getP_ok : ∀ {p : List Nat} {t : Ty} {x : t.den} {u : SV}, getP p t x = some u → ∃ s y o, u = .val s y ∧ offP t p = some (o, s) ∧ ∀ cs, RK L t x cs → ∃ c, RK L s y c ∧ Sits c cs o
  | [], t, x, u, h => by
    cases h
    exact ⟨t, x, 0, rfl, by cases t <;> rfl, fun cs hr => ⟨cs, hr, Sits.refl cs⟩⟩
  | f :: p, .agg t, x, u, h => by
    simp only [getP] at h
    split at h
    · rename_i s y hg
      obtain ⟨s1, y1, o, he, ho, hc⟩ := getF_ok (L := L) hg
      cases he
      obtain ⟨s', y', o', hu, ho', hc'⟩ := getP_ok h
      refine ⟨s', y', o + o', hu, by simp [offP, ho, ho'], fun cs hr => ?_⟩
      obtain ⟨c, h1, h2⟩ := hc cs hr
      obtain ⟨c', h3, h4⟩ := hc' c h1
      exact ⟨c', h3, h4.trans h2⟩
    · cases h
  | f :: p, .int _, _, _, h => by simp [getP] at h
  | f :: p, .bool, _, _, h => by simp [getP] at h
  | f :: p, .str, _, _, h => by simp [getP] at h
  | f :: p, .unit, _, _, h => by simp [getP] at h
  | f :: p, .pair _ _, _, _, h => by simp [getP] at h
  | f :: p, .slice _ _, _, _, h => by simp [getP] at h
theorem RT_RV {t : Ty} {v : SV} {cs : List Value} (h : RT L γ t v cs) : RV L γ v (mk t cs) := by
  cases h with
  | val h => exact .val h
  | nilS => exact .nilS
  | row h => exact .row h
  | strct h => exact .strct h
theorem offF_add : ∀ {t : Ty} {f o : Nat} {s : Ty}, offF t f = some (o, s) → o + s.sz ≤ t.sz
  | .pair a b, 0, o, s, h => by
    cases h
    simp [Ty.sz]
  | .pair a b, n + 1, o, s, h => by
    simp only [offF, Option.map_eq_some_iff] at h
    obtain ⟨q, hq, he⟩ := h
    cases he
    have := offF_add hq
    simp only [Ty.sz]
    omega
  | .int _, _, _, _, h => by simp [offF] at h
  | .bool, _, _, _, h => by simp [offF] at h
  | .str, _, _, _, h => by simp [offF] at h
  | .unit, _, _, _, h => by simp [offF] at h
  | .agg _, _, _, _, h => by simp [offF] at h
  | .slice _ _, _, _, _, h => by simp [offF] at h
theorem offP_snoc : ∀ {t : Ty} {p : List Nat} {f o o' : Nat} {s s' u : Ty}, offP t p = some (o, s) → s = .agg u → offF u f = some (o', s') → offP t (p ++ [f]) = some (o + o', s')
  | t, [], f, o, o', s, s', u, h, hs, hf => by
    have : (0, t) = (o, s) := by cases t <;> simpa [offP] using h
    cases this
    subst hs
    show (offF u f).bind _ = _
    rw [hf]
    simp [offP]
  | .agg t, g :: p, f, o, o', s, s', u, h, hs, hf => by
    simp only [offP, Option.bind_eq_some_iff, Option.map_eq_some_iff] at h
    obtain ⟨q, hq, q', hq', he⟩ := h
    cases he
    have := offP_snoc hq' hs hf
    simp only [List.cons_append, offP, hq, Option.bind_some, this, Option.map_some]
    simp [Nat.add_assoc]
  | .int _, _ :: _, _, _, _, _, _, _, h, _, _ => by simp [offP] at h
  | .bool, _ :: _, _, _, _, _, _, _, h, _, _ => by simp [offP] at h
  | .str, _ :: _, _, _, _, _, _, _, h, _, _ => by simp [offP] at h
  | .unit, _ :: _, _, _, _, _, _, _, h, _, _ => by simp [offP] at h
  | .pair _ _, _ :: _, _, _, _, _, _, _, h, _, _ => by simp [offP] at h
  | .slice _ _, _ :: _, _, _, _, _, _, _, h, _, _ => by simp [offP] at h
end

/-! ### The program's fields -/
section
variable {P : Program}
theorem FOk_get : ∀ {fs : List Field} {t : Ty} {o : Nat}, FOk P fs t o → ∀ {f o' : Nat} {s : Ty}, offF t f = some (o', s) → ∃ fl, fs[f]? = some fl ∧ fl.offset = o + o' ∧ 0 < s.sz ∧ InfoOk P fl.type s
  | [], t, o, h, f, o', s, hf => by
    cases t <;> first | exact h.elim | simp [offF] at hf
  | fl :: fs, .pair a b, o, h, 0, o', s, hf => by
    cases hf
    exact ⟨fl, rfl, h.1, h.2.2.1, h.2.2.2.1⟩
  | fl :: fs, .pair a b, o, h, f + 1, o', s, hf => by
    simp only [offF, Option.map_eq_some_iff] at hf
    obtain ⟨q, hq, he⟩ := hf
    cases he
    obtain ⟨g, h1, h2, h3⟩ := FOk_get h.2.2.2.2 hq
    exact ⟨g, by simpa using h1, by omega, h3⟩
  | fl :: fs, .int _, _, h, _, _, _, _ => h.elim
  | fl :: fs, .bool, _, h, _, _, _, _ => h.elim
  | fl :: fs, .str, _, h, _, _, _, _ => h.elim
  | fl :: fs, .unit, _, h, _, _, _, _ => h.elim
  | fl :: fs, .agg _, _, h, _, _, _, _ => h.elim
  | fl :: fs, .slice _ _, _, h, _, _, _, _ => h.elim
theorem InfoOk.isAgg {T : TypeId} {t : Ty} (h : InfoOk P T t) (w : World) : (isAgg T).run P w = .ok (aggB t) w := by
  obtain ⟨d, hd, ha⟩ := h.agg
  rw [← ha]
  cases d <;> simp [Go.isAgg, Go.underlying, hd, aggD]
theorem InfoOk.sizeOf {T : TypeId} {t : Ty} (h : InfoOk P T t) (w : World) : (sizeOf T).run P w = .ok t.sz w := by
  obtain ⟨i, hi, hs, _⟩ := h.info
  simp [Go.sizeOf, typeInfo, hi, hs]
theorem sits_extract {c cs : List Value} {o : Nat} (h : Sits c cs o) : cs.toArray.extract o (o + c.length) = c.toArray := by
  apply Array.toList_inj.1
  rw [Array.toList_extract, List.extract_eq_take_drop]
  simp only [Nat.add_sub_cancel_left]
  apply List.ext_getElem?
  intro j
  rw [List.getElem?_take, List.getElem?_drop]
  by_cases hj : j < c.length
  · rw [if_pos hj]
    have := h j _ (List.getElem?_eq_getElem hj)
    simp [this]
  · rw [if_neg hj]
    simp [List.getElem?_eq_none (show c.length ≤ j by omega)]
theorem part_ok {T : TypeId} {s : Ty} {c cs : List Value} {o : Nat} (h : InfoOk P T s) (hl : c.length = s.sz) (hs : Sits c cs o) (w : World) : (part T cs.toArray o).run P w = .ok (mk s c) w := by
  simp only [part, Sem.run_bind, h.isAgg, Result.andThen_ok]
  rcases h.one with h1 | ⟨u, rfl⟩
  · by_cases ha : aggB s = true
    · obtain ⟨u, rfl⟩ : ∃ u, s = .agg u := by cases s <;> simp_all [aggB]
      simp only [aggB, if_true, Sem.run_bind, h.sizeOf, Result.andThen_ok, Sem.run_pure]
      rw [← hl, sits_extract hs]
      rfl
    · rw [if_neg ha]
      obtain ⟨x, rfl⟩ := List.length_eq_one_iff.1 (hl.trans h1)
      have := hs 0 x rfl
      simp only [Nat.add_zero] at this
      simp only [List.getElem?_toArray, this, Sem.run_pure]
      cases s <;> first | rfl | (simp [aggB] at ha)
  · simp only [aggB, if_true, Sem.run_bind, h.sizeOf, Result.andThen_ok, Sem.run_pure]
    rw [← hl, sits_extract hs]
    rfl
end
end Go.Proofs.Ytcfnhfbaakflgaa.Abs
