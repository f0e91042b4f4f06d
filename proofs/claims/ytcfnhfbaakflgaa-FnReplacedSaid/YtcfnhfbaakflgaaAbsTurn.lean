/- What is led to is turned: one variable or row at a time. -/
import Derived.Test.YtcfnhfbaakflgaaAbsVal
set_option linter.unusedVariables false
set_option linter.unusedSimpArgs false
namespace Go.Proofs.Ytcfnhfbaakflgaa.Abs
open Go Go.RowKit

theorem RK_ty {L : Lk} {t : Ty} {x : t.den} {cs : List Value} (h : RK L t x cs) : ∀ v ∈ cs, v.oneCell' = true := RK_one h
theorem Els_mono {L L' : Lk} (hL : ∀ b o v, L b o v → L' b o v) {t : Ty} {xs : List t.den} {css : List (List Value)} (h : Els L t xs css) : Els L' t xs css :=
  ⟨h.1, fun i hi hi' => RK_mono hL (h.2 i hi hi')⟩
theorem blk_ext {γ γ' : Nat → Option G} {r : Nat} {x : Res} (h : γ' r = γ r) : blk γ' r x = blk γ r x := by
  cases x <;> simp only [blk, h]
theorem ResOk.lt {L : Lk} {Pr : Nat → Nat → Prop} {γ : Nat → Option G} {w : World} {r : Nat} {x : Res} (h : ResOk L Pr γ w r x) {b : Nat} (hb : blk γ r x = some b) : b < w.heap.size := by
  cases x with
  | box t c =>
    obtain ⟨b', arr, T, hg, hh, _⟩ := h
    simp only [blk, hg, Option.some.injEq] at hb
    subst hb
    exact (Array.getElem?_eq_some_iff.1 hh).1
  | row e t xs fr =>
    obtain ⟨v, css, hg, _, ho, _⟩ := h
    simp only [blk, hg] at hb
    exact (ho.lt b hb).2
  | old e t xs => cases hb
theorem ResOk.γsome {L : Lk} {Pr : Nat → Nat → Prop} {γ : Nat → Option G} {w : World} {r : Nat} {x : Res} (h : ResOk L Pr γ w r x) : ∃ g, γ r = some g := by
  cases x with
  | box t c => obtain ⟨b', arr, T, hg, _⟩ := h; exact ⟨_, hg⟩
  | row e t xs fr => obtain ⟨v, css, hg, _⟩ := h; exact ⟨_, hg⟩
  | old e t xs => obtain ⟨v, hg, _⟩ := h; exact ⟨_, hg⟩
theorem ResOk.kept {L L' : Lk} {Pr Pr' : Nat → Nat → Prop} {γ γ' : Nat → Option G} {w w' : World} {row : Option Nat} {r : Nat} {x : Res} (h : ResOk L Pr γ w r x) (hL : ∀ b o v, L b o v → L' b o v)
    (hP : ∀ b o, Pr b o → Pr' b o) (hγ : ∀ r g, γ r = some g → γ' r = some g) (hg : w.grownBy w' row) (hne : ∀ b, row = some b → blk γ r x ≠ some b) : ResOk L' Pr' γ' w' r x := by
  cases x with
  | box t c =>
    obtain ⟨b, arr, T, hk, hh, hc⟩ := h
    refine ⟨b, arr, T, hγ _ _ hk, ?_, RT_mono hL hγ hc⟩
    rw [hg.block b (Array.getElem?_eq_some_iff.1 hh).1 (fun e => hne b e.symm (by simp [blk, hk]))]
    exact hh
  | row e t xs fr =>
    obtain ⟨v, css, hk, he, ho, hf⟩ := h
    refine ⟨v, css, hγ _ _ hk, Els_mono hL he, ho.kept hg ?_, fun h b hb o hoo => hP _ _ (hf h b hb o hoo)⟩
    cases hb : v.ownBlock with
    | none => exact .inl rfl
    | some b => exact .inr fun e => hne b e.symm (by simp [blk, hk, hb])
  | old e t xs =>
    obtain ⟨v, hk, hr⟩ := h
    exact ⟨v, hγ _ _ hk, RK_mono hL hr⟩
section
variable {w0 : World} {X : Nat → Prop} {Pr0 : Nat → Nat → Prop} {sl : List SV} {get : Nat → Option Res} {γ γ' : Nat → Option G} {Pr Pr' : Nat → Nat → Prop} {a : Act} {w w' : World}
theorem Ln_turn (hin : ∀ b o, Pr b o → b < w.heap.size) {row : Option Nat} (hg : w.grownBy w' row) (hP : ∀ b o, Pr b o → Pr' b o)
    (hcell : ∀ b o v, row = some b → Pr b o → w.cell? ⟨b, o, none⟩ = some v → w'.cell? ⟨b, o, none⟩ = some v) : ∀ b o v, Ln Pr w b o v → Ln Pr' w' b o v := by
  intro b o v ⟨h1, h2⟩
  refine ⟨hP _ _ h1, ?_⟩
  by_cases hr : row = some b
  · exact hcell b o v hr h1 h2
  · rw [World.cell?_of_block (hg.block b (hin _ _ h1) (fun e => hr e.symm))]
    exact h2
/-- One of what slots lead to is turned (or gone, or new). -/
theorem Inv.turn (hI : Inv w0 X Pr0 sl get γ Pr a w) (k : Nat) (x' : Option Res) (row : Option Nat) (hg : w.grownBy w' row) (hγ : ∀ r g, γ r = some g → γ' r = some g) (hγk : ∀ r, r ≠ k → γ' r = γ r)
    (hgs : ∀ e t v, γ' k = some (.row e t v) → ∃ A n c, v = .slice A n c) (hwf : ∀ b t, γ' k = some (.box b t) → WfB false t = true)
    (hrow : ∀ b, row = some b → (X b ∨ w0.heap.size ≤ b) ∧ ∀ r x, r ≠ k → get r = some x → blk γ r x ≠ some b)
    (hP : ∀ b o, Pr b o → Pr' b o) (hP' : ∀ b o, Pr' b o → Pr b o ∨ ∃ x, x' = some x ∧ blk γ' k x = some b ∧ mayLean x o)
    (hcell : ∀ b o v, row = some b → Pr b o → w.cell? ⟨b, o, none⟩ = some v → w'.cell? ⟨b, o, none⟩ = some v)
    (hres : ∀ x, x' = some x → ResOk (Ln Pr' w') Pr' γ' w' k x)
    (hblk : ∀ x b, x' = some x → blk γ' k x = some b → (X b ∨ w0.heap.size ≤ b) ∧ (∀ r y, r ≠ k → get r = some y → blk γ r y ≠ some b) ∧ ∀ o, Pr b o → mayLean x o) :
    Inv w0 X Pr0 sl (fun s => if s = k then x' else get s) γ' Pr' a w' := by
  have hL := Ln_turn hI.prIn hg hP hcell
  constructor
  case slots => exact RVs_mono hL hγ hI.slots
  case defers => exact hI.defers
  case gs =>
    intro r e t v h
    by_cases hr : r = k
    · subst hr
      exact hgs e t v h
    · rw [hγk r hr] at h
      exact hI.gs r e t v h
  case wfs =>
    intro r b t h
    by_cases hr : r = k
    · subst hr
      exact hwf b t h
    · rw [hγk r hr] at h
      exact hI.wfs r b t h
  case res =>
    intro r x h
    by_cases hk : r = k
    · subst hk
      rw [if_pos rfl] at h
      exact hres x h
    · rw [if_neg hk] at h
      exact (hI.res r x h).kept hL hP hγ hg fun b hb => (hrow b hb).2 r x hk h
  case apart =>
    intro r r' x y b h h' hne hb
    by_cases hk : r = k
    · subst hk
      rw [if_pos rfl] at h
      rw [if_neg (fun e => hne e.symm)] at h'
      rw [blk_ext (hγk r' (fun e => hne e.symm))]
      exact (hblk x b h hb).2.1 r' y (fun e => hne e.symm) h'
    · rw [if_neg hk] at h
      rw [blk_ext (hγk r hk)] at hb
      by_cases hk' : r' = k
      · subst hk'
        rw [if_pos rfl] at h'
        exact fun hb' => (hblk y b h' hb').2.1 r x hk h hb
      · rw [if_neg hk'] at h'
        rw [blk_ext (hγk r' hk')]
        exact hI.apart r r' x y b h h' hne hb
  case loose =>
    intro r x b h hb o ho
    by_cases hk : r = k
    · subst hk
      rw [if_pos rfl] at h
      rcases hP' b o ho with ho | ⟨x1, h1, h2, h3⟩
      · exact (hblk x b h hb).2.2 o ho
      · rw [h] at h1
        cases h1
        exact h3
    · rw [if_neg hk] at h
      rw [blk_ext (hγk r hk)] at hb
      rcases hP' b o ho with ho | ⟨x1, h1, h2, h3⟩
      · exact hI.loose r x b h hb o ho
      · exact absurd hb ((hblk x1 b h1 h2).2.1 r x hk h)
  case where_ =>
    intro r x b h hb
    by_cases hk : r = k
    · subst hk
      rw [if_pos rfl] at h
      exact (hblk x b h hb).1
    · rw [if_neg hk] at h
      rw [blk_ext (hγk r hk)] at hb
      exact hI.where_ r x b h hb
  case frame =>
    intro i hi hx
    rw [hg.block i (by have := hI.size; omega) (fun e => by
      rcases (hrow i e.symm).1 with h | h
      · exact hx h
      · omega)]
    exact hI.frame i hi hx
  case size => exact Nat.le_trans hI.size hg.size
  case os => exact hg.os.trans hI.os
  case tape => exact hg.tape.trans hI.tape
  case output => exact hg.output.trans hI.output
  case prIn =>
    intro b o ho
    rcases hP' b o ho with ho | ⟨x1, h1, h2, h3⟩
    · exact Nat.lt_of_lt_of_le (hI.prIn b o ho) hg.size
    · exact (hres x1 h1).lt h2
  case prOld =>
    intro b hb hx o ho
    rcases hP' b o ho with ho | ⟨x1, h1, h2, h3⟩
    · exact hI.prOld b hb hx o ho
    · rcases (hblk x1 b h1 h2).1 with h | h
      · exact absurd h hx
      · omega
  case pr0 => exact fun b o v h => hL _ _ _ (hI.pr0 b o v h)

/-! ### Rows are shared -/
theorem Inv.freeze1 (hI : Inv w0 X Pr0 sl get γ Pr a w) {r : Nat} {e : TypeId} {t : Ty} {xs : List t.den} {fr : Bool} (h : get r = some (.row e t xs fr)) :
    ∃ Pr', Inv w0 X Pr0 sl (fun s => if s = r then some (.row e t xs true) else get s) γ Pr' a w ∧ ∀ b o, Pr b o → Pr' b o := by
  obtain ⟨v, css, hk, he, ho, hf⟩ := hI.res r _ h
  have hb : ∀ x fr', x = Res.row e t xs fr' → blk γ r x = v.ownBlock := fun x fr' hx => by subst hx; simp [blk, hk]
  refine ⟨fun b o => Pr b o ∨ (v.ownBlock = some b ∧ o < xs.length * t.sz), ?_, fun b o h => .inl h⟩
  refine hI.turn r _ none ⟨rfl, rfl, rfl, Nat.le_refl _, fun _ _ _ => rfl⟩ (fun _ _ h => h) (fun _ _ => rfl) (fun e t v h => hI.gs r e t v h) (fun b t h => hI.wfs r b t h) (fun b hb => by cases hb) (fun b o h => .inl h) ?_ (fun b o v hb => by cases hb) ?_ ?_
  · intro b o ho
    rcases ho with ho | ⟨h1, h2⟩
    · exact .inl ho
    · exact .inr ⟨_, rfl, (hb _ true rfl).trans h1, h2⟩
  · intro x hx
    cases hx
    exact ⟨v, css, hk, Els_mono (fun b o v h => ⟨.inl h.1, h.2⟩) he, ho, fun _ b hb o ho => .inr ⟨hb, ho⟩⟩
  · intro x b hx hbb
    cases hx
    have hb' : blk γ r (.row e t xs fr) = some b := by rw [hb _ fr rfl, ← hb _ true rfl]; exact hbb
    refine ⟨hI.where_ r _ b h hb', fun r' y hne hy hyb => hI.apart r r' _ y b h hy (fun e => hne e.symm) hb' hyb, fun o hoo => ?_⟩
    have := hI.loose r _ b h hb' o hoo
    cases fr with
    | true => exact this
    | false => exact this.elim
theorem updG_append {get : Nat → Option Res} : ∀ {u u' : Up}, updG get (u ++ u') = updG (updG get u) u'
  | [], u' => rfl
  | (r, x) :: u, u' => updG_append (u := u)
/-- Rows of a table, known but for whether they are shared. -/
def Knows (res : Tab) (get : Nat → Option Res) : Prop := ∀ r x, getR res r = some x → ∃ y, get r = some y ∧ (y = x ∨ ∃ e t xs fr, x = .row e t xs fr ∧ y = .row e t xs true)
theorem Knows.row {res : Tab} (h : Knows res get) {r : Nat} {e : TypeId} {t : Ty} {xs : List t.den} {fr : Bool} (hr : getR res r = some (.row e t xs fr)) : ∃ fr', get r = some (.row e t xs fr') ∧ (fr = true → fr' = true) := by
  obtain ⟨y, hy, h | ⟨e', t', xs', fr', h1, h2⟩⟩ := h r _ hr
  · subst h
    exact ⟨fr, hy, id⟩
  · cases h1
    subst h2
    exact ⟨true, hy, fun _ => rfl⟩
theorem Inv.freeze_ok (res : Tab) : ∀ (l : List Nat) {get : Nat → Option Res} {Pr : Nat → Nat → Prop}, Knows res get → Inv w0 X Pr0 sl get γ Pr a w →
    ∃ Pr', Inv w0 X Pr0 sl (updG get (freeze res l)) γ Pr' a w ∧ (∀ b o, Pr b o → Pr' b o) ∧ Knows res (updG get (freeze res l)) ∧
      (∀ r, (∀ e t xs fr, get r ≠ some (.row e t xs fr)) → updG get (freeze res l) r = get r) ∧
      (∀ r e t xs fr, r ∈ l → getR res r = some (.row e t xs fr) → updG get (freeze res l) r = some (.row e t xs true)) ∧
      (∀ r e t xs fr, get r = some (.row e t xs fr) → ∃ fr', updG get (freeze res l) r = some (.row e t xs fr') ∧ (fr = true → fr' = true)) ∧
      (∀ r, r ∉ l → updG get (freeze res l) r = get r)
  | [], get, Pr, hk, hI => ⟨Pr, hI, fun _ _ h => h, hk, fun _ _ => rfl, fun _ _ _ _ _ h => by simp at h, fun r e t xs fr h => ⟨fr, h, id⟩, fun _ _ => rfl⟩
  | r :: l, get, Pr, hk, hI => by
    by_cases h : ∃ e t xs, getR res r = some (.row e t xs false)
    · obtain ⟨e, t, xs, h⟩ := h
      obtain ⟨fr', hr, _⟩ := hk.row h
      obtain ⟨Pr1, hI1, hP1⟩ := hI.freeze1 hr
      have hk1 : Knows res (fun s => if s = r then some (.row e t xs true) else get s) := by
        intro s x hx
        by_cases hs : s = r
        · subst hs
          rw [h] at hx
          cases hx
          exact ⟨_, if_pos rfl, .inr ⟨e, t, xs, false, rfl, rfl⟩⟩
        · obtain ⟨y, hy, hh⟩ := hk s x hx
          exact ⟨y, by simp only [if_neg hs]; exact hy, hh⟩
      obtain ⟨Pr2, hI2, hP2, hk2, h21, h22, h23, h24⟩ := Inv.freeze_ok res l hk1 hI1
      have he : freeze res (r :: l) = (r, some (.row e t xs true)) :: freeze res l := by simp [freeze, h]
      rw [he]
      refine ⟨Pr2, hI2, fun b o hh => hP2 b o (hP1 b o hh), hk2, ?_, ?_, ?_, ?_⟩
      · intro s hn
        have hs : s ≠ r := fun hh => hn e t xs fr' (hh ▸ hr)
        rw [show updG get ((r, some (.row e t xs true)) :: freeze res l) = updG (fun s => if s = r then some (.row e t xs true) else get s) (freeze res l) from rfl, h21 s (fun e' t' xs' fr2 => by simp only [if_neg hs]; exact hn e' t' xs' fr2)]
        simp only [if_neg hs]
      · intro s e' t' xs' fr hs hx
        rcases List.mem_cons.1 hs with rfl | hs
        · rw [h] at hx
          cases hx
          obtain ⟨fr2, h4, h5⟩ := h23 s e t xs true (if_pos rfl)
          rw [h5 rfl] at h4
          exact h4
        · exact h22 s e' t' xs' fr hs hx
      · intro s e' t' xs' fr hx
        by_cases hs : s = r
        · subst hs
          rw [hr] at hx
          cases hx
          obtain ⟨fr2, h4, h5⟩ := h23 s e t xs true (if_pos rfl)
          exact ⟨fr2, h4, fun _ => h5 rfl⟩
        · exact h23 s e' t' xs' fr (by simp only [if_neg hs]; exact hx)
      · intro s hs
        rw [show updG get ((r, some (.row e t xs true)) :: freeze res l) = updG (fun s => if s = r then some (.row e t xs true) else get s) (freeze res l) from rfl, h24 s (fun hh => hs (List.mem_cons_of_mem _ hh))]
        simp only [if_neg (fun e => hs (by simp [e]) : ¬ s = r)]
    · have he : freeze res (r :: l) = freeze res l := by
        simp only [freeze, List.filterMap_cons]
        split
        · rfl
        · rename_i hh
          split at hh
          · rename_i e t xs hx
            exact absurd ⟨e, t, xs, hx⟩ h
          · cases hh
      obtain ⟨Pr2, hI2, hP2, hk2, h21, h22, h23, h24⟩ := Inv.freeze_ok res l hk hI
      rw [he]
      refine ⟨Pr2, hI2, hP2, hk2, h21, ?_, h23, fun s hs => h24 s (fun hh => hs (List.mem_cons_of_mem _ hh))⟩
      intro s e' t' xs' fr hs hx
      rcases List.mem_cons.1 hs with rfl | hs
      · cases fr with
        | false => exact absurd ⟨e', t', xs', hx⟩ h
        | true =>
          obtain ⟨fr', h5, h6⟩ := hk.row hx
          obtain ⟨fr2, h7, h8⟩ := h23 s e' t' xs' fr' h5
          rw [h8 (h6 rfl)] at h7
          exact h7
      · exact h22 s e' t' xs' fr hs hx
end
end Go.Proofs.Ytcfnhfbaakflgaa.Abs
