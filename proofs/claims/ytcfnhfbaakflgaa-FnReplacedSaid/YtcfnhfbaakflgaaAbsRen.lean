/- Other numbers. -/
import Derived.Test.YtcfnhfbaakflgaaAbsCore5
set_option linter.unusedVariables false
set_option linter.unusedSimpArgs false
set_option linter.unusedSectionVars false
namespace Go.Proofs.Ytcfnhfbaakflgaa.Abs
open Go Go.RowKit

section
variable {L : Lk} {γ γ' : Nat → Option G} {f : Nat → Option Nat}
theorem mapO_ok {g : SV → Option SV} (hg : ∀ {t : Ty} {v v' : SV} {c : List Value}, RT L γ t v c → g v = some v' → RT L γ' t v' c) : ∀ {t : Ty} {l l' : List SV} {cs : List Value}, RTs L γ t l cs → mapO g l = some l' → RTs L γ' t l' cs
  | _, _, _, _, .nil, h => by
    cases h
    exact .nil
  | _, _, _, _, .cons hv k, h => by
    simp only [mapO, Option.bind_eq_some_iff] at h
    obtain ⟨v', h1, l', h2, he⟩ := h
    cases he
    exact .cons (hg hv h1) (mapO_ok hg k h2)
theorem renameT_ok (hf : ∀ r j, f r = some j → γ' j = γ r) : ∀ (d : Nat) {t : Ty} {v v' : SV} {cs : List Value}, RT L γ t v cs → renameT f d v = some v' → RT L γ' t v' cs := by
  intro d
  induction d with
  | zero => intro t v v' cs _ h; simp [renameT] at h
  | succ d ih =>
    intro t v v' cs hv h
    cases hv with
    | val hk =>
      cases h
      exact .val hk
    | nilS =>
      cases h
      exact .nilS
    | row hk =>
      simp only [renameT] at h
      split at h
      · rename_i j hj
        cases h
        exact .row ((hf _ _ hj).trans hk)
      · cases h
    | strct hk =>
      simp only [renameT] at h
      split at h
      · rename_i l' hl
        cases h
        exact .strct (mapO_ok (fun hv hh => ih hv hh) hk hl)
      · cases h
theorem renames_ok {g : SV → SV} (hg : ∀ {v : SV} {u : Value}, RV L γ v u → RV L γ' (g v) u) : ∀ {l : List SV} {us : List Value}, RVs L γ l us → RVs L γ' (l.map g) us
  | _, _, .nil => .nil
  | _, _, .cons h k => .cons (hg h) (renames_ok hg k)
theorem rename_ok (hf : ∀ r j, f r = some j → γ' j = γ r) : ∀ (d : Nat) {v : SV} {u : Value}, RV L γ v u → RV L γ' (rename f d v) u := by
  intro d
  induction d with
  | zero => intro v u _; cases v <;> exact .undef
  | succ d ih =>
    intro v u hv
    cases hv with
    | undef => exact .undef
    | nilS => exact .nilS
    | val h => exact .val h
    | row h =>
      simp only [rename]
      split
      · rename_i j hj
        exact .row ((hf _ _ hj).trans h)
      · exact .undef
    | ptr h hp =>
      simp only [rename]
      split
      · rename_i j hj
        exact .ptr ((hf _ _ hj).trans h) hp
      · exact .undef
    | eptr h hc => exact .eptr h hc
    | rptr h h0 hn hp =>
      simp only [rename]
      split
      · rename_i j hj
        exact .rptr ((hf _ _ hj).trans h) h0 hn hp
      · exact .undef
    | tail h h0 hn hc =>
      simp only [rename]
      split
      · rename_i j hj
        exact .tail ((hf _ _ hj).trans h) h0 hn hc
      · exact .undef
    | fn h => exact .fn (renames_ok ih h)
    | tup h => exact .tup (renames_ok ih h)
    | strct h =>
      simp only [rename]
      split
      · rename_i l' hl
        exact .strct (mapO_ok (fun hv hh => renameT_ok hf d hv hh) h hl)
      · exact .undef
end
theorem place_get : ∀ {ids : List Nat} {r k j : Nat}, place r ids k = some j → k ≤ j ∧ ids[j - k]? = some r
  | [], _, _, _, h => by simp [place] at h
  | x :: l, r, k, j, h => by
    unfold place at h
    split at h
    · rename_i hb
      cases h
      have := Nat.eq_of_beq_eq_true hb
      subst this
      simp
    · obtain ⟨h1, h2⟩ := place_get h
      refine ⟨by omega, ?_⟩
      rw [show j - k = (j - (k + 1)) + 1 by omega]
      simpa using h2
/-- One entry under its new number. -/
def RenRes (f : Nat → Option Nat) (x x' : Res) : Prop := (∃ t c c', x = .box t c ∧ x' = .box t c' ∧ renameT f 9 c = some c') ∨ (x' = x ∧ ∀ t c, x ≠ .box t c)
theorem hitB_ok {o : Option Nat} {j : Nat} (h : hitB o j = true) : o = some j := by
  unfold hitB at h
  split at h
  · exact congrArg some (Nat.eq_of_beq_eq_true h)
  · cases h
theorem getR_cons {k r : Nat} {v : Res} {l : Tab} : getR ((k, v) :: l) r = if k = r then some v else getR l r := by
  show (match Nat.beq k r with | true => some v | false => getR l r) = _
  by_cases h : k = r
  · subst h
    simp
  · have : Nat.beq k r = false := by
      cases hb : Nat.beq k r with
      | false => rfl
      | true => exact absurd (Nat.eq_of_beq_eq_true hb) h
    rw [this, if_neg h]
theorem renTab_ok {res : Tab} {f : Nat → Option Nat} : ∀ {ids : List Nat} {k j : Nat} {x' : Res}, getR (renTab res f ids k) j = some x' → ∃ r x, f r = some j ∧ getR res r = some x ∧ RenRes f x x' ∧ k ≤ j ∧ ids[j - k]? = some r
  | [], _, _, _, h => by simp [renTab, getR] at h
  | r :: l, k, j, x', h => by
    have rest : getR (renTab res f l (k + 1)) j = some x' → ∃ s x, f s = some j ∧ getR res s = some x ∧ RenRes f x x' ∧ k ≤ j ∧ (r :: l)[j - k]? = some s := fun h => by
      obtain ⟨s, x, h1, h2, h3, h4, h5⟩ := renTab_ok h
      refine ⟨s, x, h1, h2, h3, by omega, ?_⟩
      rw [show j - k = (j - (k + 1)) + 1 by omega]
      simpa using h5
    unfold renTab at h
    split at h
    · rename_i t c hg hh
      split at h
      · rename_i c' hc
        rw [getR_cons] at h
        split at h
        · rename_i hk
          subst hk
          cases h
          exact ⟨r, _, hitB_ok hh, hg, .inl ⟨t, c, c', rfl, rfl, hc⟩, Nat.le_refl _, by simp⟩
        · exact rest h
      · exact rest h
    · rename_i v hne hg hh
      rw [getR_cons] at h
      split at h
      · rename_i hk
        subst hk
        cases h
        exact ⟨r, _, hitB_ok hh, hg, .inr ⟨rfl, fun t c he => hne t c (by rw [he])⟩, Nat.le_refl _, by simp⟩
      · exact rest h
    · exact rest h
section
variable {w0 : World} {X : Nat → Prop} {Pr0 : Nat → Nat → Prop} {sl sl' : List SV} {get get' : Nat → Option Res} {γ γ' : Nat → Option G} {Pr : Nat → Nat → Prop} {a : Act} {w : World} {f : Nat → Option Nat}
theorem RenRes.ok {L : Lk} {x x' : Res} {r j : Nat} (h : RenRes f x x') (hf : ∀ r j, f r = some j → γ' j = γ r) (hj : f r = some j) (hx : ResOk L Pr γ w r x) : ResOk L Pr γ' w j x' ∧ blk γ' j x' = blk γ r x ∧ mayLean x' = mayLean x := by
  have hγ := hf _ _ hj
  rcases h with ⟨t, c, c', rfl, rfl, hc⟩ | ⟨rfl, hne⟩
  · obtain ⟨b, arr, T, h1, h2, h3⟩ := hx
    refine ⟨⟨b, arr, T, hγ.trans h1, h2, renameT_ok hf 9 h3 hc⟩, ?_, ?_⟩
    · simp only [blk, hγ]
    · funext o
      rfl
  · refine ⟨?_, ?_, rfl⟩
    · cases x' with
      | box t c => exact absurd rfl (hne t c)
      | row e t xs fr =>
        obtain ⟨v, css, h1, h2, h3, h4⟩ := hx
        exact ⟨v, css, hγ.trans h1, h2, h3, h4⟩
      | old e t xs =>
        obtain ⟨v, h1, h2⟩ := hx
        exact ⟨v, hγ.trans h1, h2⟩
    · cases x' <;> simp only [blk, hγ]
theorem Inv.renum (hI : Inv w0 X Pr0 sl get γ Pr a w) (hs : RVs (Ln Pr w) γ' sl' a.tmps.toList) (hf : ∀ r j, f r = some j → γ' j = γ r) (hγ : ∀ j g, γ' j = some g → ∃ r, γ r = some g)
    (hg : ∀ j x', get' j = some x' → ∃ r x, f r = some j ∧ get r = some x ∧ RenRes f x x') : Inv w0 X Pr0 sl' get' γ' Pr a w := by
  have key : ∀ j x', get' j = some x' → ∃ r x, f r = some j ∧ get r = some x ∧ ResOk (Ln Pr w) Pr γ' w j x' ∧ blk γ' j x' = blk γ r x ∧ mayLean x' = mayLean x := by
    intro j x' h
    obtain ⟨r, x, h1, h2, h3⟩ := hg j x' h
    exact ⟨r, x, h1, h2, h3.ok hf h1 (hI.res r x h2)⟩
  constructor
  case slots => exact hs
  case defers => exact hI.defers
  case gs =>
    intro r e t v h
    obtain ⟨s, h⟩ := hγ _ _ h
    exact hI.gs s e t v h
  case wfs =>
    intro r b t h
    obtain ⟨s, h⟩ := hγ _ _ h
    exact hI.wfs s b t h
  case res =>
    intro j x h
    obtain ⟨r, y, _, _, h1, _⟩ := key j x h
    exact h1
  case apart =>
    intro j j' x x' b h h' hne hb
    obtain ⟨r, y, h1, h2, _, h3, _⟩ := key j x h
    obtain ⟨r', y', h1', h2', _, h3', _⟩ := key j' x' h'
    rw [h3'] 
    rw [h3] at hb
    refine hI.apart r r' y y' b h2 h2' (fun e => hne ?_) hb
    subst e
    rw [h1] at h1'
    exact Option.some.inj h1'
  case loose =>
    intro j x b h hb o ho
    obtain ⟨r, y, h1, h2, _, h3, h4⟩ := key j x h
    rw [h3] at hb
    rw [h4]
    exact hI.loose r y b h2 hb o ho
  case where_ =>
    intro j x b h hb
    obtain ⟨r, y, h1, h2, _, h3, h4⟩ := key j x h
    rw [h3] at hb
    exact hI.where_ r y b h2 hb
  case frame => exact hI.frame
  case size => exact hI.size
  case os => exact hI.os
  case tape => exact hI.tape
  case output => exact hI.output
  case prIn => exact hI.prIn
  case prOld => exact hI.prOld
  case pr0 => exact hI.pr0
theorem keep_ok {L : Lk} (live : List Nat) : ∀ {sl : List SV} {us : List Value} (n : Nat), RVs L γ sl us → RVs L γ (keep live n sl) us
  | _, _, _, .nil => .nil
  | _, _, n, .cons h k => by
    unfold keep
    refine .cons ?_ (keep_ok live (n + 1) k)
    split
    · exact h
    · exact .undef
/-- The wanted slots alone, under new numbers. -/
theorem Inv.norm {σ : St} (hI : Inv w0 X Pr0 σ.slots (getR σ.res) γ Pr a w) (live : List Nat) : ∃ γ', Inv w0 X Pr0 (norm live σ).slots (getR (norm live σ).res) γ' Pr a w ∧ (∀ r, (norm live σ).nx ≤ r → γ' r = none) ∧ ∀ r s, (reachOn σ.res (keep live 0 σ.slots) (upTo σ.n0))[r]? = some s → γ' r = γ s := by
  refine ⟨fun j => ((reachOn σ.res (keep live 0 σ.slots) (upTo σ.n0))[j]?).bind γ, ?_, ?_, fun r s h => by simp only [h, Option.bind_some]⟩
  · have hf : ∀ r j, place r (reachOn σ.res (keep live 0 σ.slots) (upTo σ.n0)) 0 = some j → ((reachOn σ.res (keep live 0 σ.slots) (upTo σ.n0))[j]?).bind γ = γ r := by
      intro r j h
      obtain ⟨_, h⟩ := place_get h
      rw [Nat.sub_zero] at h
      rw [h]
      rfl
    refine hI.renum (renames_ok (fun h => rename_ok hf 9 h) (keep_ok live 0 hI.slots)) hf ?_ ?_
    · intro j g h
      rw [Option.bind_eq_some_iff] at h
      obtain ⟨r, _, h⟩ := h
      exact ⟨r, h⟩
    · intro j x' h
      obtain ⟨r, x, h1, h2, h3, _⟩ := renTab_ok h
      exact ⟨r, x, h1, h2, h3⟩
  · intro r hr
    have : (reachOn σ.res (keep live 0 σ.slots) (upTo σ.n0))[r]? = none := List.getElem?_eq_none hr
    show ((reachOn σ.res (keep live 0 σ.slots) (upTo σ.n0))[r]?).bind γ = none
    rw [this]
    rfl
end
end Go.Proofs.Ytcfnhfbaakflgaa.Abs
