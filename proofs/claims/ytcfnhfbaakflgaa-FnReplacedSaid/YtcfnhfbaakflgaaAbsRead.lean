/- What a slot leads to, read as a plain value. -/
import Derived.Test.YtcfnhfbaakflgaaAbsTurn
set_option linter.unusedVariables false
set_option linter.unusedSimpArgs false
namespace Go.Proofs.Ytcfnhfbaakflgaa.Abs
open Go Go.RowKit

theorem flatten_get {α : Type} : ∀ {css : List (List α)} {n : Nat}, (∀ c ∈ css, c.length = n) → ∀ {i j : Nat} {c : List α}, css[i]? = some c → j < n → css.flatten[i * n + j]? = c[j]?
  | [], n, _, i, j, c, h, _ => by simp at h
  | c0 :: css, n, hl, 0, j, c, h, hj => by
    simp at h
    subst h
    rw [List.flatten_cons, Nat.zero_mul, Nat.zero_add, List.getElem?_append_left (by rw [hl _ (by simp)]; exact hj)]
  | c0 :: css, n, hl, i + 1, j, c, h, hj => by
    have h0 : c0.length = n := hl _ (by simp)
    rw [List.flatten_cons, List.getElem?_append_right (by rw [h0, Nat.succ_mul]; omega), h0]
    rw [show (i + 1) * n + j - n = i * n + j by rw [Nat.succ_mul]; omega]
    exact flatten_get (fun c hc => hl c (List.mem_cons_of_mem _ hc)) (by simpa using h) hj
theorem Els.lens {L : Lk} {t : Ty} {xs : List t.den} {css : List (List Value)} (h : Els L t xs css) : ∀ c ∈ css, c.length = t.sz := by
  intro c hc
  obtain ⟨i, hi, rfl⟩ := List.getElem_of_mem hc
  exact RK_len (h.2 i (by rw [← h.1]; exact hi) hi)
theorem Els.ones {L : Lk} {t : Ty} {xs : List t.den} {css : List (List Value)} (h : Els L t xs css) : ∀ v ∈ css.flatten, v.oneCell' = true := by
  intro v hv
  obtain ⟨c, hc, hv⟩ := List.mem_flatten.1 hv
  obtain ⟨i, hi, rfl⟩ := List.getElem_of_mem hc
  exact RK_one (h.2 i (by rw [← h.1]; exact hi) hi) v hv
theorem add_lit (b o j : Nat) : (⟨b, o, none⟩ : Addr).add j = ⟨b, o + j, none⟩ := by unfold Addr.add; split <;> simp_all
/-- A row of the call's own as a plain row. -/
theorem row_RK {Pr Pr' : Nat → Nat → Prop} {γ : Nat → Option G} {w : World} {r : Nat} {e : TypeId} {t : Ty} {xs : List t.den} {fr : Bool} (h : ResOk (Ln Pr w) Pr γ w r (.row e t xs fr))
    (hP : ∀ b o, Pr b o → Pr' b o) (hP' : ∀ b, blk γ r (.row e t xs fr) = some b → ∀ o, o < xs.length * t.sz → Pr' b o) : ∃ v, γ r = some (.row e t v) ∧ RK (Ln Pr' w) (.slice e t) xs [v] := by
  obtain ⟨v, css, hk, he, ho, _⟩ := h
  refine ⟨v, hk, ?_⟩
  rcases ho.2 with ⟨rfl, hn⟩ | ⟨g, cap, cur, rfl, _, hg, hnc, _⟩
  · have hx : xs = [] := List.eq_nil_of_length_eq_zero hn
    subst hx
    exact ⟨none, 0, rfl, Nat.le_refl _, fun h => absurd rfl h⟩
  · refine ⟨some ⟨g, 0, none⟩, cap, rfl, hnc, fun _ => ⟨g, 0, rfl, fun i hi => ?_⟩⟩
    have hi' : i < css.length := by rw [he.1]; exact hi
    refine ⟨css[i], RK_mono (fun b o v h => ⟨hP _ _ h.1, h.2⟩) (he.2 i hi hi'), fun j u hj => ?_⟩
    have hjs : j < t.sz := by
      have := he.lens _ (List.getElem_mem hi')
      rw [← this]
      exact (List.getElem?_eq_some_iff.1 hj).1
    have hfl : css.flatten[i * t.sz + j]? = some u := (flatten_get he.lens (List.getElem?_eq_getElem hi') hjs).trans hj
    have hlt : i * t.sz + j < xs.length * t.sz := by
      have h1 : (i + 1) * t.sz ≤ xs.length * t.sz := Nat.mul_le_mul_right _ hi
      rw [Nat.succ_mul] at h1
      omega
    refine ⟨hP' g (by simp [blk, hk, Value.ownBlock]) _ (by omega), ?_⟩
    have := ho.cells (g := g) rfl _ _ hfl
    rwa [add_lit, ← Nat.add_assoc] at this
/-- Rows that are known by their numbers. -/
def RowsOk (L : Lk) (γ : Nat → Option G) (res : Tab) (P : Nat → Prop) : Prop := ∀ r e t xs, P r → ((∃ fr, getR res r = some (.row e t xs fr)) ∨ getR res r = some (.old e t xs)) → ∃ v, γ r = some (.row e t v) ∧ RK L (.slice e t) xs [v]
theorem cast_eq {t s : Ty} {x : t.den} {y : s.den} (h : cast? s x = some y) : ∃ h : t = s, h ▸ x = y := by
  unfold cast? at h
  split at h
  · exact ⟨by assumption, by simpa using h⟩
  · cases h
section
variable {L : Lk} {γ : Nat → Option G} {res : Tab} {P : Nat → Prop}
theorem toPairs_ok {g : (t : Ty) → SV → Option t.den} (Q : SV → Prop) (hg : ∀ {a t : Ty} {v : SV} {x : a.den} {c : List Value}, Q v → RT L γ t v c → g a v = some x → RK L a x c) :
    ∀ {t s : Ty} {l : List SV} {cs : List Value} {x : t.den}, (∀ v ∈ l, Q v) → RTs L γ s l cs → toPairs g t l = some x → RK L t x cs
  | t, _, _, _, x, hq, .nil, h => by
    cases t <;> simp only [toPairs] at h <;> first | (cases h; done) | exact rfl
  | t, _, _, _, x, hq, .cons hv k, h => by
    cases t <;> simp only [toPairs] at h <;> try (cases h; done)
    simp only [Option.bind_eq_some_iff] at h
    obtain ⟨u, hu, w, hw, he⟩ := h
    cases he
    exact ⟨_, _, rfl, hg (hq _ (by simp)) hv hu, toPairs_ok Q hg (fun v hv => hq v (List.mem_cons_of_mem _ hv)) k hw⟩
theorem toVal_row {d : Nat} {t : Ty} {r : Nat} {x : t.den} (h : toVal res (d + 1) t (.row r) = some x) : ∃ e s xs, ((∃ fr, getR res r = some (.row e s xs fr)) ∨ getR res r = some (.old e s xs)) ∧ cast? (t := .slice e s) t xs = some x := by
  have h' : (match getR res r with
    | some (.row e s xs _) => cast? (t := .slice e s) t xs
    | some (.old e s xs) => cast? (t := .slice e s) t xs
    | _ => none) = some x := by
    cases t <;> exact h
  split at h'
  · exact ⟨_, _, _, .inl ⟨_, by assumption⟩, h'⟩
  · exact ⟨_, _, _, .inr (by assumption), h'⟩
  · cases h'
theorem toVal_RT (hr : RowsOk L γ res P) : ∀ (d d' : Nat) {t s : Ty} {v : SV} {x : t.den} {cs : List Value}, d ≤ d' → (∀ r ∈ rowsIn d' v, P r) → RT L γ s v cs → toVal res d t v = some x → RK L t x cs := by
  intro d
  induction d with
  | zero => intro d' t s v x cs _ _ _ h; simp [toVal] at h
  | succ d ih =>
    intro d' t s v x cs hd hP hv h
    cases d' with
    | zero => omega
    | succ d' =>
      cases hv with
      | val hk =>
        simp only [toVal] at h
        obtain ⟨rfl, rfl⟩ := cast_eq h
        exact hk
      | nilS =>
        cases t <;> simp only [toVal] at h <;> try (cases h; done)
        cases h
        exact ⟨none, 0, rfl, Nat.le_refl _, fun h => absurd rfl h⟩
      | row hk =>
        rename_i r _
        obtain ⟨e, s, xs, hres, hc⟩ := toVal_row h
        obtain ⟨v, hv, hrk⟩ := hr r e s xs (hP r (by simp [rowsIn])) hres
        rw [hk] at hv
        cases hv
        obtain ⟨rfl, rfl⟩ := cast_eq hc
        exact hrk
      | strct hk =>
        rename_i l
        cases t <;> simp only [toVal] at h <;> try (cases h; done)
        rename_i t'
        show RK L t' x cs
        refine toPairs_ok (t := t') (x := x) (fun v => ∀ r ∈ rowsIn d' v, P r) (fun hq ht hx => ih d' (Nat.le_of_succ_le_succ hd) hq ht hx) (fun v hv r hrr => hP r ?_) hk h
        simp only [rowsIn, List.mem_flatMap]
        exact ⟨v, hv, hrr⟩
theorem toVal_RV (hr : RowsOk L γ res P) {d d' : Nat} {t : Ty} {v : SV} {x : t.den} {u : Value} (hd : d ≤ d') (hP : ∀ r ∈ rowsIn d' v, P r) (hv : RV L γ v u) (h : toVal res d t v = some x) : ∃ cs, u = mk t cs ∧ RK L t x cs := by
  match d, d', hd with
  | 0, _, _ => simp [toVal] at h
  | d + 1, d' + 1, hd =>
    cases hv with
    | undef => simp [toVal] at h
    | nilS =>
      cases t <;> simp only [toVal] at h <;> try (cases h; done)
      cases h
      exact ⟨[.slice none 0 0], rfl, none, 0, rfl, Nat.le_refl _, fun h => absurd rfl h⟩
    | val hk =>
      simp only [toVal] at h
      obtain ⟨rfl, rfl⟩ := cast_eq h
      exact ⟨_, rfl, hk⟩
    | row hk =>
      rename_i e s r
      have hrk := toVal_RT hr (d + 1) (d' + 1) hd hP (.row hk) h
      refine ⟨_, ?_, hrk⟩
      obtain ⟨e', s', xs, _, hc⟩ := toVal_row h
      obtain ⟨rfl, _⟩ := cast_eq hc
      rfl
    | strct hk =>
      have hrk := toVal_RT hr (d + 1) (d' + 1) hd hP (.strct hk) h
      cases t <;> simp only [toVal] at h <;> try (cases h; done)
      exact ⟨_, rfl, hrk⟩
    | ptr => simp [toVal] at h
    | eptr => simp [toVal] at h
    | rptr => simp [toVal] at h
    | tail => simp [toVal] at h
    | fn => simp [toVal] at h
    | tup => simp [toVal] at h
end
/-- Everything may be looked at. -/
abbrev LnT (w : World) : Lk := Ln (fun _ _ => True) w
section
variable {w0 : World} {X : Nat → Prop} {Pr0 : Nat → Nat → Prop} {sl : List SV} {get : Nat → Option Res} {γ : Nat → Option G} {Pr : Nat → Nat → Prop} {a : Act} {w : World} {res : Tab}
theorem Ln_T : ∀ b o v, Ln Pr w b o v → LnT w b o v := fun b o v h => ⟨trivial, h.2⟩
theorem rowsT (hI : Inv w0 X Pr0 sl get γ Pr a w) (hk : ∀ r x, getR res r = some x → get r = some x) : RowsOk (LnT w) γ res (fun _ => True) := by
  intro r e t xs _ h
  rcases h with ⟨fr, h⟩ | h
  · exact row_RK (hI.res r _ (hk r _ h)) (fun _ _ _ => trivial) (fun _ _ _ _ => trivial)
  · obtain ⟨v, hv, hr⟩ := hI.res r _ (hk r _ h)
    exact ⟨v, hv, RK_mono Ln_T hr⟩
theorem readT (hI : Inv w0 X Pr0 sl get γ Pr a w) (hk : ∀ r x, getR res r = some x → get r = some x) {d : Nat} {t : Ty} {v : SV} {x : t.den} {u : Value} (hv : RV (Ln Pr w) γ v u) (h : toVal res d t v = some x) :
    ∃ cs, u = mk t cs ∧ RK (LnT w) t x cs := toVal_RV (rowsT hI hk) (Nat.le_refl d) (fun _ _ => trivial) (RV_mono Ln_T (fun _ _ h => h) hv) h
/-- Behind a freeze: what the rows hold may be leaned on. -/
theorem rowsF (hI : Inv w0 X Pr0 sl get γ Pr a w) {l : List Nat} (hk : ∀ r e t xs fr, r ∈ l → getR res r = some (.row e t xs fr) → get r = some (.row e t xs true))
    (ho : ∀ r e t xs, getR res r = some (.old e t xs) → get r = some (.old e t xs)) : RowsOk (Ln Pr w) γ res (fun r => r ∈ l) := by
  intro r e t xs hr h
  rcases h with ⟨fr, h⟩ | h
  · have h1 := hI.res r _ (hk r e t xs fr hr h)
    obtain ⟨v, css, h2, h3, h4, h5⟩ := h1
    refine row_RK (hI.res r _ (hk r e t xs fr hr h)) (fun _ _ h => h) (fun b hb o hoo => h5 rfl b ?_ o hoo)
    simpa [blk, h2] using hb
  · obtain ⟨v, hv, hr⟩ := hI.res r _ (ho r e t xs h)
    exact ⟨v, hv, hr⟩
end
end Go.Proofs.Ytcfnhfbaakflgaa.Abs
