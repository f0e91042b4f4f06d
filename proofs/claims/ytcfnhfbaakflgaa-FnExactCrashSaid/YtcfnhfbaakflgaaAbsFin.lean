/- What a function gives back. -/
import Derived.Test.YtcfnhfbaakflgaaAbsStep
set_option linter.unusedVariables false
set_option linter.unusedSimpArgs false
set_option linter.unusedSectionVars false
namespace Go.Proofs.Ytcfnhfbaakflgaa.Abs
open Go Go.RowKit

/-- Rows under new numbers, from n on. -/
def Numb (γ γr : Nat → Option G) (ro : List Nat) (n : Nat) : Prop := ∀ (i r : Nat), ro[i]? = some r → γr (n + i) = γ r
theorem Numb.left {γ γr : Nat → Option G} {a b : List Nat} {n : Nat} (h : Numb γ γr (a ++ b) n) : Numb γ γr a n := fun i r hr => h i r (by
  rw [List.getElem?_append_left (List.getElem?_eq_some_iff.1 hr).1]
  exact hr)
theorem Numb.right {γ γr : Nat → Option G} {a b : List Nat} {n : Nat} (h : Numb γ γr (a ++ b) n) : Numb γ γr b (n + a.length) := fun i r hr => by
  have := h (a.length + i) r (by
    rw [List.getElem?_append_right (by omega)]
    simpa using hr)
  rwa [← Nat.add_assoc] at this
theorem rowsOut_nil {a b : Sh} {l : List SV} : True := trivial
section
variable {L : Lk} {γ γr : Nat → Option G} {res : Tab} {fr : List Nat}
theorem ofSV_val {t : Ty} {v : SV} {x : t.den} (h : ofSV res (.val t) v = some x) : toVal res 9 t v = some x := by
  cases v <;> exact h
theorem ofSV_row {e : TypeId} {t : Ty} {b : Bool} {v : SV} {x : List t.den} (h : ofSV res (.row e t b) v = some x) : ∃ r, v = .row r ∧ getR res r = some (.row e t x b) := by
  cases v <;> first | (cases h; done) | skip
  rename_i r
  have h' : (match getR res r with
    | some (.row e' s xs fr') => match (b == fr') with
      | true => cast? (t := .slice e' s) (.slice e t) xs
      | false => none
    | _ => none) = some x := h
  split at h'
  · rename_i e' s xs fr' hg
    split at h'
    · rename_i hb
      obtain ⟨he, hx⟩ := cast_eq h'
      cases he
      have hx : xs = x := hx
      subst hx
      have : b = fr' := by simpa using hb
      subst this
      exact ⟨r, rfl, hg⟩
    · cases h'
  · cases h'
theorem ofSV_strct {s : Sh} {v : SV} {x : s.den} (h : ofSV res (.strct s) v = some x) : ∃ l, v = .strct l ∧ ofSV.go res s l = some x := by
  cases v <;> first | (cases h; done) | skip
  rename_i l
  exact ⟨l, rfl, h⟩
theorem ofSV_pair {a b : Sh} {l : List SV} {x : (Sh.pair a b).den} (h : ofSV.go res (.pair a b) l = some x) : ∃ v l', l = v :: l' ∧ ofSV res a v = some x.1 ∧ ofSV.go res b l' = some x.2 := by
  cases l with
  | nil => cases h
  | cons v l =>
    have h' : ((ofSV res a v).bind fun x => (ofSV.go res b l).bind fun y => some (x, y)) = some x := h
    rw [Option.bind_eq_some_iff] at h'
    obtain ⟨x1, h1, h'⟩ := h'
    rw [Option.bind_eq_some_iff] at h'
    obtain ⟨x2, h2, h'⟩ := h'
    cases h'
    exact ⟨v, l, rfl, h1, h2⟩
theorem ofSV_unit {l : List SV} {x : Sh.unit.den} (h : ofSV.go res .unit l = some x) : l = [] := by
  cases l with
  | nil => rfl
  | cons v l => cases h
/-- Cells: by the shape. -/
theorem give_RT (hR : RowsOk L γ res (fun r => r ∈ fr)) (hT : RowTy γ res) : ∀ (s : Sh), (∀ (t0 : Ty) (v : SV) (cs : List Value) (x : s.den) (n : Nat), RT L γ t0 v cs → ofSV res s v = some x → (∀ r ∈ rowsVal1 s v, r ∈ fr) → Numb γ γr (rowsOut1 s v) n → ∃ t, shTy s = some t ∧ RT L γr t (mkSV s x n).1 cs) ∧
    (∀ (t0 : Ty) (l : List SV) (cs : List Value) (x : s.den) (n : Nat), RTs L γ t0 l cs → ofSV.go res s l = some x → (∀ r ∈ rowsVal1.go s l, r ∈ fr) → Numb γ γr (rowsOut1.go s l) n → ∃ t, shTy.go s = some t ∧ RTs L γr t (mkSV.go s x n).1 cs)
  | .val t => ⟨fun t0 v cs x n hv h hf hn => by
      have hk := toVal_RT hR 9 9 (Nat.le_refl _) (by
        intro r hr
        exact hf r (by cases v <;> exact hr)) hv (ofSV_val h)
      exact ⟨t, rfl, .val hk⟩, fun t0 l cs x n hv h hf hn => by cases l <;> cases h⟩
  | .row e t b => ⟨fun t0 v cs x n hv h hf hn => by
      obtain ⟨r, rfl, hg⟩ := ofSV_row h
      cases hv with
      | row hγ =>
        obtain ⟨v', hv'⟩ := hT r e t x (.inl ⟨b, hg⟩)
        rw [hγ] at hv'
        cases hv'
        refine ⟨_, rfl, RT.row ?_⟩
        have := hn 0 r rfl
        rw [Nat.add_zero] at this
        rw [this]
        exact hγ, fun t0 l cs x n hv h hf hn => by cases l <;> cases h⟩
  | .unit => ⟨(fun t0 v cs x n hv h hf hn => by cases v <;> cases h), fun t0 l cs x n hv h hf hn => by
      have := ofSV_unit h
      subst this
      cases hv
      exact ⟨.unit, rfl, .nil⟩⟩
  | .strct s => ⟨fun t0 v cs x n hv h hf hn => by
      obtain ⟨l, rfl, h'⟩ := ofSV_strct h
      cases hv with
      | strct hl =>
        obtain ⟨t, h1, h2⟩ := (give_RT hR hT s).2 _ l cs x n hl h' hf hn
        refine ⟨.agg t, ?_, .strct h2⟩
        show (shTy.go s).map Ty.agg = _
        rw [h1]
        rfl, fun t0 l cs x n hv h hf hn => by cases l <;> cases h⟩
  | .pair a b => ⟨(fun t0 v cs x n hv h hf hn => by cases v <;> cases h), fun t0 l cs x n hv h hf hn => by
      obtain ⟨v, l', rfl, h1, h2⟩ := ofSV_pair h
      cases hv with
      | cons hv hk =>
        have hro : rowsOut1.go (.pair a b) (v :: l') = rowsOut1 a v ++ rowsOut1.go b l' := rfl
        rw [hro] at hn
        have hc := (give_count a).1 v x.1 n h1
        obtain ⟨t1, h3, h4⟩ := (give_RT hR hT a).1 _ v _ x.1 n hv h1 (fun r hr => hf r (List.mem_append_left _ hr)) hn.left
        obtain ⟨t2, h5, h6⟩ := (give_RT hR hT b).2 _ l' _ x.2 (mkSV a x.1 n).2.2 hk h2 (fun r hr => hf r (List.mem_append_right _ hr)) (by rw [hc]; exact hn.right)
        refine ⟨.pair t1 t2, ?_, .cons h4 h6⟩
        show ((shTy a).bind fun t => (shTy.go b).map fun u => Ty.pair t u) = _
        rw [h3, h5]
        rfl⟩
where
  give_count : ∀ (s : Sh), (∀ (v : SV) (x : s.den) (n : Nat), ofSV res s v = some x → (mkSV s x n).2.2 = n + (rowsOut1 s v).length) ∧ (∀ (l : List SV) (x : s.den) (n : Nat), ofSV.go res s l = some x → (mkSV.go s x n).2.2 = n + (rowsOut1.go s l).length)
    | .val t => ⟨fun v x n h => by cases v <;> rfl, fun l x n h => by cases l <;> cases h⟩
    | .row e t b => ⟨fun v x n h => by
        obtain ⟨r, rfl, hg⟩ := ofSV_row h
        rfl, fun l x n h => by cases l <;> cases h⟩
    | .unit => ⟨(fun v x n h => by cases v <;> cases h), fun l x n h => by
        have := ofSV_unit h
        subst this
        rfl⟩
    | .strct s => ⟨fun v x n h => by
        obtain ⟨l, rfl, h'⟩ := ofSV_strct h
        exact (give_count s).2 l x n h', fun l x n h => by cases l <;> cases h⟩
    | .pair a b => ⟨(fun v x n h => by cases v <;> cases h), fun l x n h => by
        obtain ⟨v, l', rfl, h1, h2⟩ := ofSV_pair h
        show (mkSV.go b x.2 (mkSV a x.1 n).2.2).2.2 = n + (rowsOut1 a v ++ rowsOut1.go b l').length
        rw [(give_count b).2 l' x.2 _ h2, (give_count a).1 v x.1 n h1, List.length_append]
        omega⟩
/-- Values: by the shape. -/
theorem give_RV (hR : RowsOk L γ res (fun r => r ∈ fr)) (hT : RowTy γ res) {s : Sh} {v : SV} {u : Value} {x : s.den} {n : Nat} (hv : RV L γ v u) (h : ofSV res s v = some x) (hf : ∀ r ∈ rowsVal1 s v, r ∈ fr) (hn : Numb γ γr (rowsOut1 s v) n) : RV L γr (mkSV s x n).1 u := by
  cases s with
  | val t =>
    obtain ⟨cs, rfl, hk⟩ := toVal_RV hR (d' := 9) (Nat.le_refl _) (by
      intro r hr
      exact hf r (by cases v <;> exact hr)) hv (ofSV_val h)
    exact .val hk
  | row e t b =>
    obtain ⟨r, rfl, hg⟩ := ofSV_row h
    cases hv with
    | row hγ =>
      have := hn 0 r rfl
      rw [Nat.add_zero] at this
      exact .row (this.trans hγ)
  | unit => cases v <;> cases h
  | pair a b => cases v <;> cases h
  | strct s =>
    obtain ⟨l, rfl, h'⟩ := ofSV_strct h
    cases hv with
    | strct hl =>
      obtain ⟨t, h1, h2⟩ := (give_RT hR hT s).2 _ l _ x n hl h' hf hn
      exact .strct h2
theorem give_RVs (hR : RowsOk L γ res (fun r => r ∈ fr)) (hT : RowTy γ res) : ∀ (s : Sh) (l : List SV) (us : List Value) (x : s.den) (n : Nat), RVs L γ l us → ofSV.go res s l = some x → (∀ r ∈ rowsVal1.go s l, r ∈ fr) → Numb γ γr (rowsOut1.go s l) n → RVs L γr (mkSV.go s x n).1 us
  | .val t, l, us, x, n, hv, h, hf, hn => by cases l <;> cases h
  | .row e t b, l, us, x, n, hv, h, hf, hn => by cases l <;> cases h
  | .strct s, l, us, x, n, hv, h, hf, hn => by cases l <;> cases h
  | .unit, l, us, x, n, hv, h, hf, hn => by
    have := ofSV_unit h
    subst this
    cases hv
    exact .nil
  | .pair a b, l, us, x, n, hv, h, hf, hn => by
    obtain ⟨v, l', rfl, h1, h2⟩ := ofSV_pair h
    cases hv with
    | cons hv hk =>
      have hro : rowsOut1.go (.pair a b) (v :: l') = rowsOut1 a v ++ rowsOut1.go b l' := rfl
      rw [hro] at hn
      have hc := (give_RT.give_count a).1 v x.1 n h1
      exact .cons (give_RV hR hT hv h1 (fun r hr => hf r (List.mem_append_left _ hr)) hn.left)
        (give_RVs hR hT b l' _ x.2 (mkSV a x.1 n).2.2 hk h2 (fun r hr => hf r (List.mem_append_right _ hr)) (by rw [hc]; exact hn.right))
/-- The new rows. -/
theorem give_rows : ∀ (s : Sh), (∀ (v : SV) (x : s.den) (n : Nat), ofSV res s v = some x → ∀ p ∈ (mkSV s x n).2.1, ∃ (i r : Nat) (e : TypeId) (t : Ty) (xs : List t.den) (b : Bool), p = (n + i, some (.row e t xs b)) ∧ (rowsOut1 s v)[i]? = some r ∧ getR res r = some (.row e t xs b)) ∧
    (∀ (l : List SV) (x : s.den) (n : Nat), ofSV.go res s l = some x → ∀ p ∈ (mkSV.go s x n).2.1, ∃ (i r : Nat) (e : TypeId) (t : Ty) (xs : List t.den) (b : Bool), p = (n + i, some (.row e t xs b)) ∧ (rowsOut1.go s l)[i]? = some r ∧ getR res r = some (.row e t xs b))
  | .val t => ⟨fun v x n h p hp => by simp [mkSV] at hp, fun l x n h => by cases l <;> cases h⟩
  | .row e t b => ⟨fun v x n h p hp => by
      obtain ⟨r, rfl, hg⟩ := ofSV_row h
      simp only [mkSV, List.mem_singleton] at hp
      exact ⟨0, r, e, t, x, b, hp, rfl, hg⟩, fun l x n h => by cases l <;> cases h⟩
  | .unit => ⟨(fun v x n h => by cases v <;> cases h), fun l x n h p hp => by simp [mkSV.go] at hp⟩
  | .strct s => ⟨fun v x n h p hp => by
      obtain ⟨l, rfl, h'⟩ := ofSV_strct h
      exact (give_rows s).2 l x n h' p hp, fun l x n h => by cases l <;> cases h⟩
  | .pair a b => ⟨(fun v x n h => by cases v <;> cases h), fun l x n h p hp => by
      obtain ⟨v, l', rfl, h1, h2⟩ := ofSV_pair h
      have hp' : p ∈ (mkSV a x.1 n).2.1 ++ (mkSV.go b x.2 (mkSV a x.1 n).2.2).2.1 := hp
      have hro : rowsOut1.go (.pair a b) (v :: l') = rowsOut1 a v ++ rowsOut1.go b l' := rfl
      rw [hro]
      rcases List.mem_append.1 hp' with hp | hp
      · obtain ⟨i, r, e, t, xs, b', h3, h4, h5⟩ := (give_rows a).1 v x.1 n h1 p hp
        exact ⟨i, r, e, t, xs, b', h3, by rw [List.getElem?_append_left (List.getElem?_eq_some_iff.1 h4).1]; exact h4, h5⟩
      · obtain ⟨i, r, e, t, xs, b', h3, h4, h5⟩ := (give_rows b).2 l' x.2 _ h2 p hp
        have hc := (give_RT.give_count a).1 v x.1 n h1
        refine ⟨(rowsOut1 a v).length + i, r, e, t, xs, b', ?_, ?_, h5⟩
        · rw [h3, hc, Nat.add_assoc]
        · rw [List.getElem?_append_right (by omega)]
          simpa using h4⟩
end
end Go.Proofs.Ytcfnhfbaakflgaa.Abs
