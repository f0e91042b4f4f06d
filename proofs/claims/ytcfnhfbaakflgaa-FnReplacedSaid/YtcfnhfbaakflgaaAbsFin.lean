/- What a function gives back. -/
import Derived.Test.YtcfnhfbaakflgaaAbsStep
set_option linter.unusedVariables false
set_option linter.unusedSimpArgs false
set_option linter.unusedSectionVars false
namespace Go.Proofs.Ytcfnhfbaakflgaa.Abs
open Go Go.RowKit

/-- Rows under new numbers, from n on. -/
def Numb (γ γr : Nat → Option G) (ro : List Nat) (n : Nat) : Prop := ∀ (i r : Nat), ro[i]? = some r → γr (n + i) = γ r
theorem Numb.left {γ γr : Nat → Option G} {a b : List Nat} {n : Nat} (h : Numb γ γr (a ++ b) n) : Numb γ γr a n := fun i r hr => h i r (by
  rw [List.getElem?_append_left (List.getElem?_eq_some_iff.1 hr).1]
  exact hr)
theorem Numb.right {γ γr : Nat → Option G} {a b : List Nat} {n : Nat} (h : Numb γ γr (a ++ b) n) : Numb γ γr b (n + a.length) := fun i r hr => by
  have := h (a.length + i) r (by
    rw [List.getElem?_append_right (by omega)]
    simpa using hr)
  rwa [← Nat.add_assoc] at this
theorem rowsOut_nil {a b : Sh} {l : List SV} : True := trivial
section
variable {L : Lk} {γ γr : Nat → Option G} {res : Tab} {fr : List Nat}
theorem ofSV_val {t : Ty} {v : SV} {x : t.den} (h : ofSV res (.val t) v = some x) : toVal res 9 t v = some x := by
  cases v <;> exact h
theorem ofSV_row {e : TypeId} {t : Ty} {b : Bool} {v : SV} {x : List t.den} (h : ofSV res (.row e t b) v = some x) : ∃ r, v = .row r ∧ getR res r = some (.row e t x b) := by
  cases v <;> first | (cases h; done) | skip
  rename_i r
  have h' : (match getR res r with
    | some (.row e' s xs fr') => match (b == fr') with
      | true => cast? (t := .slice e' s) (.slice e t) xs
      | false => none
    | _ => none) = some x := h
  split at h'
  · rename_i e' s xs fr' hg
    split at h'
    · rename_i hb
      obtain ⟨he, hx⟩ := cast_eq h'
      cases he
      have hx : xs = x := hx
      subst hx
      have : b = fr' := by simpa using hb
      subst this
      exact ⟨r, rfl, hg⟩
    · cases h'
  · cases h'
theorem ofSV_strct {s : Sh} {v : SV} {x : s.den} (h : ofSV res (.strct s) v = some x) : ∃ l, v = .strct l ∧ ofSV.go res s l = some x := by
  cases v <;> first | (cases h; done) | skip
  rename_i l
  exact ⟨l, rfl, h⟩
theorem ofSV_pair {a b : Sh} {l : List SV} {x : (Sh.pair a b).den} (h : ofSV.go res (.pair a b) l = some x) : ∃ v l', l = v :: l' ∧ ofSV res a v = some x.1 ∧ ofSV.go res b l' = some x.2 := by
  cases l with
  | nil => cases h
  | cons v l =>
    have h' : ((ofSV res a v).bind fun x => (ofSV.go res b l).bind fun y => some (x, y)) = some x := h
    rw [Option.bind_eq_some_iff] at h'
    obtain ⟨x1, h1, h'⟩ := h'
    rw [Option.bind_eq_some_iff] at h'
    obtain ⟨x2, h2, h'⟩ := h'
    cases h'
    exact ⟨v, l, rfl, h1, h2⟩
theorem ofSV_unit {l : List SV} {x : Sh.unit.den} (h : ofSV.go res .unit l = some x) : l = [] := by
  cases l with
  | nil => rfl
  | cons v l => cases h
/-- Cells: by the shape. -/
theorem give_RT (hR : RowsOk L γ res (fun r => r ∈ fr)) (hT : RowTy γ res) : ∀ (s : Sh), (∀ (t0 : Ty) (v : SV) (cs : List Value) (x : s.den) (n : Nat), RT L γ t0 v cs → ofSV res s v = some x → (∀ r ∈ rowsVal1 s v, r ∈ fr) → Numb γ γr (rowsOut1 s v) n → ∃ t, shTy s = some t ∧ RT L γr t (mkSV s x n).1 cs) ∧
    (∀ (t0 : Ty) (l : List SV) (cs : List Value) (x : s.den) (n : Nat), RTs L γ t0 l cs → ofSV.go res s l = some x → (∀ r ∈ rowsVal1.go s l, r ∈ fr) → Numb γ γr (rowsOut1.go s l) n → ∃ t, shTy.go s = some t ∧ RTs L γr t (mkSV.go s x n).1 cs)
  | .val t => ⟨fun t0 v cs x n hv h hf hn => by
      have hk := toVal_RT hR 9 9 (Nat.le_refl _) (by
        intro r hr
        exact hf r (by cases v <;> exact hr)) hv (ofSV_val h)
      exact ⟨t, rfl, .val hk⟩, fun t0 l cs x n hv h hf hn => by cases l <;> cases h⟩
  | .row e t b => ⟨fun t0 v cs x n hv h hf hn => by
      obtain ⟨r, rfl, hg⟩ := ofSV_row h
      cases hv with
      | row hγ =>
        obtain ⟨v', hv'⟩ := hT r e t x (.inl ⟨b, hg⟩)
        rw [hγ] at hv'
        cases hv'
        refine ⟨_, rfl, RT.row ?_⟩
        have := hn 0 r rfl
        rw [Nat.add_zero] at this
        rw [this]
        exact hγ, fun t0 l cs x n hv h hf hn => by cases l <;> cases h⟩
  | .unit => ⟨(fun t0 v cs x n hv h hf hn => by cases v <;> cases h), fun t0 l cs x n hv h hf hn => by
      have := ofSV_unit h
      subst this
      cases hv
      exact ⟨.unit, rfl, .nil⟩⟩
  | .ptr t => ⟨(fun t0 v cs x n hv h hf hn => by cases v <;> cases h), fun t0 l cs x n hv h hf hn => by cases l <;> cases h⟩
  | .strct s => ⟨fun t0 v cs x n hv h hf hn => by
      obtain ⟨l, rfl, h'⟩ := ofSV_strct h
      cases hv with
      | strct hl =>
        obtain ⟨t, h1, h2⟩ := (give_RT hR hT s).2 _ l cs x n hl h' hf hn
        refine ⟨.agg t, ?_, .strct h2⟩
        show (shTy.go s).map Ty.agg = _
        rw [h1]
        rfl, fun t0 l cs x n hv h hf hn => by cases l <;> cases h⟩
  | .pair a b => ⟨(fun t0 v cs x n hv h hf hn => by cases v <;> cases h), fun t0 l cs x n hv h hf hn => by
      obtain ⟨v, l', rfl, h1, h2⟩ := ofSV_pair h
      cases hv with
      | cons hv hk =>
        have hro : rowsOut1.go (.pair a b) (v :: l') = rowsOut1 a v ++ rowsOut1.go b l' := rfl
        rw [hro] at hn
        have hc := (give_count a).1 v x.1 n h1
        obtain ⟨t1, h3, h4⟩ := (give_RT hR hT a).1 _ v _ x.1 n hv h1 (fun r hr => hf r (List.mem_append_left _ hr)) hn.left
        obtain ⟨t2, h5, h6⟩ := (give_RT hR hT b).2 _ l' _ x.2 (mkSV a x.1 n).2.2 hk h2 (fun r hr => hf r (List.mem_append_right _ hr)) (by rw [hc]; exact hn.right)
        refine ⟨.pair t1 t2, ?_, .cons h4 h6⟩
        show ((shTy a).bind fun t => (shTy.go b).map fun u => Ty.pair t u) = _
        rw [h3, h5]
        rfl⟩
where
  give_count : ∀ (s : Sh), (∀ (v : SV) (x : s.den) (n : Nat), ofSV res s v = some x → (mkSV s x n).2.2 = n + (rowsOut1 s v).length) ∧ (∀ (l : List SV) (x : s.den) (n : Nat), ofSV.go res s l = some x → (mkSV.go s x n).2.2 = n + (rowsOut1.go s l).length)
    | .val t => ⟨fun v x n h => by cases v <;> rfl, fun l x n h => by cases l <;> cases h⟩
    | .row e t b => ⟨fun v x n h => by
        obtain ⟨r, rfl, hg⟩ := ofSV_row h
        rfl, fun l x n h => by cases l <;> cases h⟩
    | .unit => ⟨(fun v x n h => by cases v <;> cases h), fun l x n h => by
        have := ofSV_unit h
        subst this
        rfl⟩
    | .ptr t => ⟨(fun v x n h => by cases v <;> cases h), fun l x n h => by cases l <;> cases h⟩
    | .strct s => ⟨fun v x n h => by
        obtain ⟨l, rfl, h'⟩ := ofSV_strct h
        exact (give_count s).2 l x n h', fun l x n h => by cases l <;> cases h⟩
    | .pair a b => ⟨(fun v x n h => by cases v <;> cases h), fun l x n h => by
        obtain ⟨v, l', rfl, h1, h2⟩ := ofSV_pair h
        show (mkSV.go b x.2 (mkSV a x.1 n).2.2).2.2 = n + (rowsOut1 a v ++ rowsOut1.go b l').length
        rw [(give_count b).2 l' x.2 _ h2, (give_count a).1 v x.1 n h1, List.length_append]
        omega⟩
/-- Values: by the shape. -/
theorem give_RV (hR : RowsOk L γ res (fun r => r ∈ fr)) (hT : RowTy γ res) {s : Sh} {v : SV} {u : Value} {x : s.den} {n : Nat} (hv : RV L γ v u) (h : ofSV res s v = some x) (hf : ∀ r ∈ rowsVal1 s v, r ∈ fr) (hn : Numb γ γr (rowsOut1 s v) n) : RV L γr (mkSV s x n).1 u := by
  cases s with
  | val t =>
    obtain ⟨cs, rfl, hk⟩ := toVal_RV hR (d' := 9) (Nat.le_refl _) (by
      intro r hr
      exact hf r (by cases v <;> exact hr)) hv (ofSV_val h)
    exact .val hk
  | row e t b =>
    obtain ⟨r, rfl, hg⟩ := ofSV_row h
    cases hv with
    | row hγ =>
      have := hn 0 r rfl
      rw [Nat.add_zero] at this
      exact .row (this.trans hγ)
  | unit => cases v <;> cases h
  | ptr t => cases v <;> cases h
  | pair a b => cases v <;> cases h
  | strct s =>
    obtain ⟨l, rfl, h'⟩ := ofSV_strct h
    cases hv with
    | strct hl =>
      obtain ⟨t, h1, h2⟩ := (give_RT hR hT s).2 _ l _ x n hl h' hf hn
      exact .strct h2
theorem give_RVs (hR : RowsOk L γ res (fun r => r ∈ fr)) (hT : RowTy γ res) : ∀ (s : Sh) (l : List SV) (us : List Value) (x : s.den) (n : Nat), RVs L γ l us → ofSV.go res s l = some x → (∀ r ∈ rowsVal1.go s l, r ∈ fr) → Numb γ γr (rowsOut1.go s l) n → RVs L γr (mkSV.go s x n).1 us
  | .val t, l, us, x, n, hv, h, hf, hn => by cases l <;> cases h
  | .row e t b, l, us, x, n, hv, h, hf, hn => by cases l <;> cases h
  | .strct s, l, us, x, n, hv, h, hf, hn => by cases l <;> cases h
  | .ptr t, l, us, x, n, hv, h, hf, hn => by cases l <;> cases h
  | .unit, l, us, x, n, hv, h, hf, hn => by
    have := ofSV_unit h
    subst this
    cases hv
    exact .nil
  | .pair a b, l, us, x, n, hv, h, hf, hn => by
    obtain ⟨v, l', rfl, h1, h2⟩ := ofSV_pair h
    cases hv with
    | cons hv hk =>
      have hro : rowsOut1.go (.pair a b) (v :: l') = rowsOut1 a v ++ rowsOut1.go b l' := rfl
      rw [hro] at hn
      have hc := (give_RT.give_count a).1 v x.1 n h1
      exact .cons (give_RV hR hT hv h1 (fun r hr => hf r (List.mem_append_left _ hr)) hn.left)
        (give_RVs hR hT b l' _ x.2 (mkSV a x.1 n).2.2 hk h2 (fun r hr => hf r (List.mem_append_right _ hr)) (by rw [hc]; exact hn.right))
/-- The new rows. -/
theorem give_rows : ∀ (s : Sh), (∀ (v : SV) (x : s.den) (n : Nat), ofSV res s v = some x → ∀ p ∈ (mkSV s x n).2.1, ∃ (i r : Nat) (e : TypeId) (t : Ty) (xs : List t.den) (b : Bool), p = (n + i, some (.row e t xs b)) ∧ (rowsOut1 s v)[i]? = some r ∧ getR res r = some (.row e t xs b)) ∧
    (∀ (l : List SV) (x : s.den) (n : Nat), ofSV.go res s l = some x → ∀ p ∈ (mkSV.go s x n).2.1, ∃ (i r : Nat) (e : TypeId) (t : Ty) (xs : List t.den) (b : Bool), p = (n + i, some (.row e t xs b)) ∧ (rowsOut1.go s l)[i]? = some r ∧ getR res r = some (.row e t xs b))
  | .val t => ⟨fun v x n h p hp => by simp [mkSV] at hp, fun l x n h => by cases l <;> cases h⟩
  | .row e t b => ⟨fun v x n h p hp => by
      obtain ⟨r, rfl, hg⟩ := ofSV_row h
      simp only [mkSV, List.mem_singleton] at hp
      exact ⟨0, r, e, t, x, b, hp, rfl, hg⟩, fun l x n h => by cases l <;> cases h⟩
  | .unit => ⟨(fun v x n h => by cases v <;> cases h), fun l x n h p hp => by simp [mkSV.go] at hp⟩
  | .ptr t => ⟨(fun v x n h p hp => by cases v <;> cases h), fun l x n h => by cases l <;> cases h⟩
  | .strct s => ⟨fun v x n h p hp => by
      obtain ⟨l, rfl, h'⟩ := ofSV_strct h
      exact (give_rows s).2 l x n h' p hp, fun l x n h => by cases l <;> cases h⟩
  | .pair a b => ⟨(fun v x n h => by cases v <;> cases h), fun l x n h p hp => by
      obtain ⟨v, l', rfl, h1, h2⟩ := ofSV_pair h
      have hp' : p ∈ (mkSV a x.1 n).2.1 ++ (mkSV.go b x.2 (mkSV a x.1 n).2.2).2.1 := hp
      have hro : rowsOut1.go (.pair a b) (v :: l') = rowsOut1 a v ++ rowsOut1.go b l' := rfl
      rw [hro]
      rcases List.mem_append.1 hp' with hp | hp
      · obtain ⟨i, r, e, t, xs, b', h3, h4, h5⟩ := (give_rows a).1 v x.1 n h1 p hp
        exact ⟨i, r, e, t, xs, b', h3, by rw [List.getElem?_append_left (List.getElem?_eq_some_iff.1 h4).1]; exact h4, h5⟩
      · obtain ⟨i, r, e, t, xs, b', h3, h4, h5⟩ := (give_rows b).2 l' x.2 _ h2 p hp
        have hc := (give_RT.give_count a).1 v x.1 n h1
        refine ⟨(rowsOut1 a v).length + i, r, e, t, xs, b', ?_, ?_, h5⟩
        · rw [h3, hc, Nat.add_assoc]
        · rw [List.getElem?_append_right (by omega)]
          simpa using h4⟩
/-! ### Results -/
variable {n0 : Nat}
theorem ofTop_ptr {t : Ty} {v : SV} {x : t.den} (h : ofTop n0 res (.ptr t) v = some x) : ∃ r c, v = .ptr r t [] ∧ n0 ≤ r ∧ getR res r = some (.box t c) ∧ toVal [] 9 t c = some x := by
  unfold ofTop at h
  cases v <;> first | (cases h; done) | skip
  rename_i r s p
  cases p with
  | cons _ _ => cases h
  | nil =>
    simp only at h
    split at h
    · rename_i t' c hb hg
      split at h
      · rename_i hs
        split at h
        · rename_i ht
          subst hs
          subst ht
          exact ⟨r, c, rfl, Nat.le_of_ble_eq_true hb, hg, h⟩
        · cases h
      · cases h
    · cases h
theorem ofTop_unit {v : SV} {x : Unit} (h : ofTop n0 res .unit v = some x) : v ≠ .undef := by
  rintro rfl
  cases h
theorem ofTops_pair {a b : Sh} {l : List SV} {x : (Sh.pair a b).den} (h : ofTops n0 res (.pair a b) l = some x) : ∃ v l', l = v :: l' ∧ ofTop n0 res a v = some x.1 ∧ ofTops n0 res b l' = some x.2 := by
  cases l with
  | nil => cases h
  | cons v l =>
    have h' : ((ofTop n0 res a v).bind fun x => (ofTops n0 res b l).bind fun y => some (x, y)) = some x := h
    rw [Option.bind_eq_some_iff] at h'
    obtain ⟨x1, h1, h'⟩ := h'
    rw [Option.bind_eq_some_iff] at h'
    obtain ⟨x2, h2, h'⟩ := h'
    cases h'
    exact ⟨v, l, rfl, h1, h2⟩
theorem ofTops_unit {l : List SV} {x : Sh.unit.den} (h : ofTops n0 res .unit l = some x) : l = [] := by
  cases l with
  | nil => rfl
  | cons v l => cases h
theorem top_count : ∀ (s : Sh) (v : SV) (x : s.den) (n : Nat), ofTop n0 res s v = some x → (mkSV s x n).2.2 = n + (rowsOut1 s v).length := by
  intro s v x n h
  cases s with
  | val t => exact (give_RT.give_count (res := res) (.val t)).1 v x n h
  | row e t b => exact (give_RT.give_count (res := res) (.row e t b)).1 v x n h
  | strct s => exact (give_RT.give_count (res := res) (.strct s)).1 v x n h
  | pair a b =>
    have h' : ofSV res (.pair a b) v = some x := h
    cases v <;> cases h'
  | unit => cases v <;> rfl
  | ptr t =>
    obtain ⟨r, c, rfl, _⟩ := ofTop_ptr h
    rfl
theorem tops_count : ∀ (s : Sh) (l : List SV) (x : s.den) (n : Nat), ofTops n0 res s l = some x → (mkSV.go s x n).2.2 = n + (rowsOut1.go s l).length
  | .val t, l, x, n, h => by cases l <;> cases h
  | .row e t b, l, x, n, h => by cases l <;> cases h
  | .strct s, l, x, n, h => by cases l <;> cases h
  | .ptr t, l, x, n, h => by cases l <;> cases h
  | .unit, l, x, n, h => by
    have := ofTops_unit h
    subst this
    rfl
  | .pair a b, l, x, n, h => by
    obtain ⟨v, l', rfl, h1, h2⟩ := ofTops_pair h
    show (mkSV.go b x.2 (mkSV a x.1 n).2.2).2.2 = n + (rowsOut1 a v ++ rowsOut1.go b l').length
    rw [tops_count b l' x.2 _ h2, top_count a v x.1 n h1, List.length_append]
    omega
theorem top_RV (hR : RowsOk L γ res (fun r => r ∈ fr)) (hT : RowTy γ res) {s : Sh} {v : SV} {u : Value} {x : s.den} {n : Nat} (hv : RV L γ v u) (h : ofTop n0 res s v = some x) (hf : ∀ r ∈ rowsVal1 s v, r ∈ fr) (hn : Numb γ γr (rowsOut1 s v) n) : RV L γr (mkSV s x n).1 u := by
  cases s with
  | val t => exact give_RV hR hT hv (s := .val t) h hf hn
  | row e t b => exact give_RV hR hT hv (s := .row e t b) h hf hn
  | strct s => exact give_RV hR hT hv (s := .strct s) h hf hn
  | pair a b => exact give_RV hR hT hv (s := .pair a b) h hf hn
  | unit => exact .undef
  | ptr t =>
    obtain ⟨r, c, rfl, _⟩ := ofTop_ptr h
    cases hv with
    | ptr hk hp =>
      have h1 := hn 0 r rfl
      rw [Nat.add_zero] at h1
      exact .ptr (h1.trans hk) hp
theorem tops_RVs (hR : RowsOk L γ res (fun r => r ∈ fr)) (hT : RowTy γ res) : ∀ (s : Sh) (l : List SV) (us : List Value) (x : s.den) (n : Nat), RVs L γ l us → ofTops n0 res s l = some x → (∀ r ∈ rowsVal1.go s l, r ∈ fr) → Numb γ γr (rowsOut1.go s l) n → RVs L γr (mkSV.go s x n).1 us
  | .val t, l, us, x, n, hv, h, hf, hn => by cases l <;> cases h
  | .row e t b, l, us, x, n, hv, h, hf, hn => by cases l <;> cases h
  | .strct s, l, us, x, n, hv, h, hf, hn => by cases l <;> cases h
  | .ptr t, l, us, x, n, hv, h, hf, hn => by cases l <;> cases h
  | .unit, l, us, x, n, hv, h, hf, hn => by
    have := ofTops_unit h
    subst this
    cases hv
    exact .nil
  | .pair a b, l, us, x, n, hv, h, hf, hn => by
    obtain ⟨v, l', rfl, h1, h2⟩ := ofTops_pair h
    cases hv with
    | cons hv hk =>
      have hro : rowsOut1.go (.pair a b) (v :: l') = rowsOut1 a v ++ rowsOut1.go b l' := rfl
      rw [hro] at hn
      have hc := top_count a v x.1 n h1
      exact .cons (top_RV hR hT hv h1 (fun r hr => hf r (List.mem_append_left _ hr)) hn.left)
        (tops_RVs hR hT b l' _ x.2 (mkSV a x.1 n).2.2 hk h2 (fun r hr => hf r (List.mem_append_right _ hr)) (by rw [hc]; exact hn.right))
/-- What goes out under a new number: a row; a variable. -/
def OutOk (n0 : Nat) (res : Tab) (r : Nat) (y : Res) : Prop := (∃ (e : TypeId) (t : Ty) (xs : List t.den) (b : Bool), y = .row e t xs b ∧ getR res r = some y) ∨ ∃ (t : Ty) (c : SV) (x : t.den), y = .box t (spread (.val t x)) ∧ n0 ≤ r ∧ getR res r = some (.box t c) ∧ toVal [] 9 t c = some x
theorem OutOk.old {r : Nat} {y : Res} (h : OutOk n0 res r y) : ∃ y0, getR res r = some y0 ∧ (∀ (γ : Nat → Option G) r, blk γ r y0 = blk γ r y) ∧ ∀ o, mayLean y0 o → mayLean y o := by
  rcases h with ⟨e, t, xs, b, rfl, hg⟩ | ⟨t, c, x, rfl, _, hg, _⟩
  · exact ⟨_, hg, fun _ _ => rfl, fun _ h => h⟩
  · exact ⟨_, hg, fun _ _ => rfl, fun _ h => h⟩
theorem top_rows : ∀ (s : Sh) (v : SV) (x : s.den) (n : Nat), ofTop n0 res s v = some x → (∀ p ∈ (mkSV s x n).2.1, ∃ (i r : Nat) (y : Res), p = (n + i, some y) ∧ (rowsOut1 s v)[i]? = some r ∧ OutOk n0 res r y) := by
  intro s v x n h p hp
  have old : (ofSV res s v = some x) → ∃ (i r : Nat) (y : Res), p = (n + i, some y) ∧ (rowsOut1 s v)[i]? = some r ∧ OutOk n0 res r y := fun h => by
    obtain ⟨i, r, e, t, xs, b, h1, h2, h3⟩ := (give_rows s).1 v x n h p hp
    exact ⟨i, r, _, h1, h2, .inl ⟨e, t, xs, b, rfl, h3⟩⟩
  cases s with
  | val t => exact old h
  | row e t b => exact old h
  | strct s => exact old h
  | pair a b => exact old h
  | unit => simp [mkSV] at hp
  | ptr t =>
    obtain ⟨r, c, rfl, h1, h2, h3⟩ := ofTop_ptr h
    simp only [mkSV, List.mem_singleton] at hp
    exact ⟨0, r, _, hp, rfl, .inr ⟨t, c, x, rfl, h1, h2, h3⟩⟩
theorem tops_rows : ∀ (s : Sh) (l : List SV) (x : s.den) (n : Nat), ofTops n0 res s l = some x → ∀ p ∈ (mkSV.go s x n).2.1, ∃ (i r : Nat) (y : Res), p = (n + i, some y) ∧ (rowsOut1.go s l)[i]? = some r ∧ OutOk n0 res r y
  | .val t, l, x, n, h => by cases l <;> cases h
  | .row e t b, l, x, n, h => by cases l <;> cases h
  | .strct s, l, x, n, h => by cases l <;> cases h
  | .ptr t, l, x, n, h => by cases l <;> cases h
  | .unit, l, x, n, h => fun p hp => by simp [mkSV.go] at hp
  | .pair a b, l, x, n, h => fun p hp => by
    obtain ⟨v, l', rfl, h1, h2⟩ := ofTops_pair h
    have hp' : p ∈ (mkSV a x.1 n).2.1 ++ (mkSV.go b x.2 (mkSV a x.1 n).2.2).2.1 := hp
    have hro : rowsOut1.go (.pair a b) (v :: l') = rowsOut1 a v ++ rowsOut1.go b l' := rfl
    rw [hro]
    rcases List.mem_append.1 hp' with hp | hp
    · obtain ⟨i, r, y, h3, h4, h5⟩ := top_rows a v x.1 n h1 p hp
      exact ⟨i, r, y, h3, by rw [List.getElem?_append_left (List.getElem?_eq_some_iff.1 h4).1]; exact h4, h5⟩
    · obtain ⟨i, r, y, h3, h4, h5⟩ := tops_rows b l' x.2 _ h2 p hp
      have hc := top_count a v x.1 n h1
      refine ⟨(rowsOut1 a v).length + i, r, y, ?_, ?_, h5⟩
      · rw [h3, hc, Nat.add_assoc]
      · rw [List.getElem?_append_right (by omega)]
        simpa using h4
end
end Go.Proofs.Ytcfnhfbaakflgaa.Abs
