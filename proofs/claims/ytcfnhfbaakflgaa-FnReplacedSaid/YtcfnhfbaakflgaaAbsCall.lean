/- Calls: what is owed, and what the caller makes of it. -/
import Derived.Test.YtcfnhfbaakflgaaAbsRen
set_option linter.unusedVariables false
set_option linter.unusedSimpArgs false
set_option linter.unusedSectionVars false
namespace Go.Proofs.Ytcfnhfbaakflgaa.Abs
open Go Go.RowKit

/-- The blocks that are handed on. -/
def Xof (tab : Tab) (γ : Nat → Option G) (k : Nat) : Prop := ∃ j x, getR tab j = some x ∧ blk γ j x = some k
def retV : List Value → Value
  | [v] => v
  | l => .tuple l.toArray
abbrev newG (u : Up) : Nat → Option Res := updG (fun _ => none) u
/-- What stands behind a call. -/
structure Back (w : World) (X : Nat → Prop) (γ : Nat → Option G) (Pr : Nat → Nat → Prop) (N M : Nat) (sv : List SV) (ub : List (Option Res)) (un : Up) (vs : List Value) (γr : Nat → Option G) (Pr' : Nat → Nat → Prop) (w' : World) : Prop where
  vals : RVs (Ln Pr' w') γr sv vs
  lim : ∀ r g, γr r = some g → (N ≤ r ∧ r < M) ∧ ((∃ e t A n c, g = .row e t (.slice A n c)) ∨ ∃ b t, g = .box b t ∧ WfB false t = true)
  box : ∀ j t c, ub[j]? = some (some (.box t c)) → ∃ b arr T, γ j = some (.box b t) ∧ w'.heap[b]? = some (.cells arr T (0, 0)) ∧ RT (Ln Pr' w') γr t c arr.toList
  row : ∀ r x, newG un r = some x → N ≤ r ∧ r < M ∧ ResOk (Ln Pr' w') Pr' γr w' r x
  apart : ∀ r r' x x' b, newG un r = some x → newG un r' = some x' → r ≠ r' → blk γr r x = some b → blk γr r' x' ≠ some b
  beside : ∀ j t c b, ub[j]? = some (some (.box t c)) → γ j = some (.box b t) → ∀ r x, newG un r = some x → blk γr r x ≠ some b
  boxLoose : ∀ j t c b, ub[j]? = some (some (.box t c)) → γ j = some (.box b t) → ∀ o, ¬ Pr' b o
  rowLoose : ∀ r x b, newG un r = some x → blk γr r x = some b → ∀ o, Pr' b o → mayLean x o
  where_ : ∀ r x b, newG un r = some x → blk γr r x = some b → X b ∨ w.heap.size ≤ b
  frame : ∀ k, k < w.heap.size → ¬ X k → w'.heap[k]? = w.heap[k]?
  size : w.heap.size ≤ w'.heap.size
  os : w'.os = w.os
  tape : w'.tape = w.tape
  output : w'.output = w.output
  prIn : ∀ b o, Pr' b o → b < w'.heap.size
  prOld : ∀ b, b < w.heap.size → ¬ X b → ∀ o, Pr' b o → Pr b o
  lean : ∀ b o v, Ln Pr w b o v → Ln Pr' w' b o v
/-- What is said of one call holds. -/
def SoundAt (P : Program) (I : FnI) (args : List SV) (tab : Tab) (z : I.sh.den × I.bx.den) : Prop :=
  (∀ (k : Nat) (p : Nat × Res), tab[k]? = some p → p.1 = k) → ∀ (w : World) (γ : Nat → Option G) (Pr : Nat → Nat → Prop) (us : List Value), Inv w (Xof tab γ) Pr args (getR tab) γ Pr { tmps := us.toArray, defers := [] } w → (∀ r, tab.length ≤ r → γ r = none) →
    ∀ N, tab.length ≤ N → ∀ (vs : List SV) (u : Up) (n : Nat) (bs : List SV) (u' : Up) (n' : Nat) (ub : List (Option Res)), mkList I.sh z.1 N = (vs, u, n) → mkList I.bx z.2 n = (bs, u', n') → backs I.rb tab bs (shTys I.bx) = some ub →
      Calls P I.g us.toArray w fun e w' => ∃ vals γr Pr', e = .returned (retV vals) ∧ Back w (Xof tab γ) γ Pr N n' vs ub (u ++ u') vals γr Pr' w' ∧ ∀ p ∈ comes I.rb tab bs, γr p.1 = γ p.2
/-- A reader of calls that can be leaned on. -/
def Sound (P : Program) (E : Env) (call : (I : FnI) → List SV → Tab → Option (I.sh.den × I.bx.den)) : Prop :=
  ∀ (I : FnI) (args : List SV) (tab : Tab) (z : I.sh.den × I.bx.den) (key : Nat), nth E.fns key = some I → call I args tab = some z → SoundAt P I args tab z
/-- What is shown otherwise. -/
def PrimsOk (P : Program) (E : Env) : Prop := ∀ (I : FnI) (f : List SV → Tab → Option (I.sh.den × I.bx.den)) (key : Nat), nth E.fns key = some I → I.prim = some f → ∀ (args : List SV) (tab : Tab) (z : I.sh.den × I.bx.den), f args tab = some z → SoundAt P I args tab z
section
theorem updG_zip {get : Nat → Option Res} : ∀ {ids : List Nat} {ub : List (Option Res)}, (∀ j j' r : Nat, ids[j]? = some r → ids[j']? = some r → j = j') →
    (∀ (j r : Nat) (x : Option Res), ids[j]? = some r → ub[j]? = some x → updG get (ids.zip ub) r = x) ∧ (∀ r, r ∉ ids → updG get (ids.zip ub) r = get r)
  | [], ub, _ => ⟨fun j r x h => by simp at h, fun r _ => rfl⟩
  | i :: ids, [], _ => ⟨fun j r x _ h => by simp at h, fun r _ => rfl⟩
  | i :: ids, y :: ub, hnd => by
    have ih := updG_zip (get := fun s => if s = i then y else get s) (ids := ids) (ub := ub) (fun j j' r h h' => by
      have := hnd (j + 1) (j' + 1) r (by simpa using h) (by simpa using h')
      omega)
    have hi : i ∉ ids := by
      intro h
      obtain ⟨j, hj, he⟩ := List.getElem_of_mem h
      have := hnd 0 (j + 1) i (by simp) (by simp [List.getElem?_eq_getElem hj, he])
      omega
    refine ⟨fun j r x h h' => ?_, fun r hr => ?_⟩
    · cases j with
      | zero =>
        simp at h h'
        subst h h'
        show updG (fun s => if s = i then y else get s) (ids.zip ub) i = y
        rw [ih.2 i hi]
        exact if_pos rfl
      | succ j => exact ih.1 j r x (by simpa using h) (by simpa using h')
    · show updG (fun s => if s = i then y else get s) (ids.zip ub) r = get r
      rw [ih.2 r (fun h => hr (List.mem_cons_of_mem _ h))]
      exact if_neg (fun e => hr (by simp [e]))
/-- Rows alone are told of. -/
theorem updG_or : ∀ {u : Up} {get : Nat → Option Res} {r : Nat}, (∀ p ∈ u, p.2.isSome = true) → updG get u r = match newG u r with | some x => some x | none => get r
  | [], get, r, _ => rfl
  | (k, x) :: u, get, r, hs => by
    have hs' : ∀ p ∈ u, p.2.isSome = true := fun p hp => hs p (List.mem_cons_of_mem _ hp)
    show updG (fun s => if s = k then x else get s) u r = match updG (fun s => if s = k then x else none) u r with | some x => some x | none => get r
    rw [updG_or (get := fun s => if s = k then x else get s) hs', updG_or (get := fun s => if s = k then x else none) hs']
    cases newG u r with
    | some y => rfl
    | none =>
      simp only
      by_cases hr : r = k
      · rw [if_pos hr, if_pos hr]
        have := hs (k, x) (by simp)
        cases x with
        | none => cases this
        | some y => rfl
      · rw [if_neg hr, if_neg hr]
end
section
variable {P : Program} {E : Env} {call : (I : FnI) → List SV → Tab → Option (I.sh.den × I.bx.den)} {w0 : World} {X : Nat → Prop} {Pr0 : Nat → Nat → Prop} {sl : List SV} {get : Nat → Option Res} {γ : Nat → Option G} {Pr : Nat → Nat → Prop}
  {a : Act} {w : World} {res : Tab} {r0 : Nat} {o : Oper} {vs : List SV} {v : SV} {u : Up}
/-- The callee's first state. -/
theorem Inv.enter (hI : Inv w0 X Pr0 sl get γ Pr a w) {γ' : Nat → Option G} {args : List SV} {us : List Value} {tab : Tab} {f : Nat → Option Nat} (hs : RVs (Ln Pr w) γ' args us) (hf : ∀ r j, f r = some j → γ' j = γ r) (hγ : ∀ j g, γ' j = some g → ∃ r, γ r = some g)
    (hg : ∀ j x', getR tab j = some x' → ∃ r x, f r = some j ∧ get r = some x ∧ RenRes f x x') : Inv w (Xof tab γ') Pr args (getR tab) γ' Pr { tmps := us.toArray, defers := [] } w := by
  have hI' : Inv w0 X Pr0 [] get γ Pr { tmps := #[], defers := [] } w := ⟨.nil, rfl, hI.gs, hI.wfs, hI.res, hI.apart, hI.loose, hI.where_, hI.frame, hI.size, hI.os, hI.tape, hI.output, hI.prIn, hI.prOld, hI.pr0⟩
  have hR := hI'.renum (sl' := []) (get' := getR tab) (γ' := γ') (f := f) .nil hf hγ hg
  exact ⟨hs, rfl, hR.gs, hR.wfs, hR.res, hR.apart, hR.loose, fun r x b h hb => .inl ⟨r, x, h, hb⟩, fun _ _ _ => rfl, Nat.le_refl _, rfl, rfl, rfl, hI.prIn, fun _ _ _ _ h => h, fun _ _ _ h => h⟩
/-- The caller's state behind a call. -/
theorem Inv.back (hI : Inv w0 X Pr0 sl get γ Pr a w) {ids : List Nat} {tab : Tab} {N M : Nat} {sv : List SV} {ub : List (Option Res)} {un : Up} {vals : List Value} {γr : Nat → Option G} {Pr' : Nat → Nat → Prop} {w' : World}
    (hnd : ∀ j j' r : Nat, ids[j]? = some r → ids[j']? = some r → j = j') (hlen : ub.length = ids.length)
    (hX : ∀ b, Xof tab (fun j => (ids[j]?).bind γ) b ↔ ∃ r x, r ∈ ids ∧ get r = some x ∧ blk γ r x = some b)
    (hbox : ∀ (j : Nat) (y : Res), ub[j]? = some (some y) → ∃ (t : Ty) (c : SV) (r : Nat) (c0 : SV), y = Res.box t c ∧ ids[j]? = some r ∧ get r = some (.box t c0))
    (hfree : ∀ r, N ≤ r → r < M → γ r = none) (hun : ∀ p ∈ un, p.2.isSome = true)
    (hB : Back w (Xof tab fun j => (ids[j]?).bind γ) (fun j => (ids[j]?).bind γ) Pr N M sv ub un vals γr Pr' w') :
    Inv w0 X Pr0 sl (updG get (ids.zip ub ++ un)) (fun r => if N ≤ r ∧ r < M then γr r else γ r) Pr' a w' ∧ RVs (Ln Pr' w') (fun r => if N ≤ r ∧ r < M then γr r else γ r) sv vals := by
  have hext : ∀ r g, γ r = some g → (if N ≤ r ∧ r < M then γr r else γ r) = some g := fun r g h => by
    by_cases hr : N ≤ r ∧ r < M
    · rw [hfree r hr.1 hr.2] at h
      cases h
    · rw [if_neg hr]
      exact h
  have hextr : ∀ r g, γr r = some g → (if N ≤ r ∧ r < M then γr r else γ r) = some g := fun r g h => by
    rw [if_pos (hB.lim r g h).1]
    exact h
  have hblkr : ∀ r x, N ≤ r ∧ r < M → blk (fun r => if N ≤ r ∧ r < M then γr r else γ r) r x = blk γr r x := fun r x h => blk_ext (if_pos h)
  have hblko : ∀ r x, ¬ (N ≤ r ∧ r < M) → blk (fun r => if N ≤ r ∧ r < M then γr r else γ r) r x = blk γ r x := fun r x h => blk_ext (if_neg h)
  have hno : ∀ r x, get r = some x → ¬ (N ≤ r ∧ r < M) := fun r x h hr => by
    obtain ⟨g, hg⟩ := (hI.res r x h).γsome
    rw [hfree r hr.1 hr.2] at hg
    cases hg
  -- what stands where
  have hcase : ∀ r x, updG get (ids.zip ub ++ un) r = some x → (newG un r = some x ∧ N ≤ r ∧ r < M) ∨ (¬ (N ≤ r ∧ r < M) ∧ r ∈ ids ∧ ∃ (j : Nat) (t : Ty) (c c0 : SV), ids[j]? = some r ∧ ub[j]? = some (some x) ∧ x = Res.box t c ∧ get r = some (.box t c0)) ∨ (¬ (N ≤ r ∧ r < M) ∧ r ∉ ids ∧ get r = some x) := by
    intro r x h
    rw [updG_append, updG_or hun] at h
    cases hn : newG un r with
    | some y =>
      rw [hn] at h
      cases h
      have := hB.row r x hn
      exact .inl ⟨rfl, this.1, this.2.1⟩
    | none =>
      rw [hn] at h
      simp only at h
      obtain ⟨h1, h2⟩ := updG_zip (get := get) (ub := ub) hnd
      by_cases hr : r ∈ ids
      · obtain ⟨j, hj, he⟩ := List.getElem_of_mem hr
        have hj' : ids[j]? = some r := by rw [List.getElem?_eq_getElem hj, he]
        have hju : ub[j]? = some ub[j] := List.getElem?_eq_getElem (by omega)
        rw [h1 j r _ hj' hju] at h
        rw [h] at hju
        obtain ⟨t, c, r', c0, hx, hr', hg⟩ := hbox j x hju
        rw [hj'] at hr'
        cases hr'
        exact .inr (.inl ⟨hno r _ hg, hr, j, t, c, c0, hj', hju, hx, hg⟩)
      · rw [h2 r hr] at h
        exact .inr (.inr ⟨hno r _ h, hr, h⟩)
  have hbox2 : ∀ {r j : Nat} {t : Ty} {c : SV}, ids[j]? = some r → ub[j]? = some (some (.box t c)) → ∃ b arr T, γ r = some (.box b t) ∧ w'.heap[b]? = some (.cells arr T (0, 0)) ∧ RT (Ln Pr' w') γr t c arr.toList := by
    intro r j t c hj hu
    obtain ⟨b, arr, T, h1, h2⟩ := hB.box j t c hu
    simp only [hj, Option.bind_some] at h1
    exact ⟨b, arr, T, h1, h2⟩
  -- a block of one that stayed is none of those handed on
  have hstay : ∀ r x b, r ∉ ids → get r = some x → blk γ r x = some b → ¬ Xof tab (fun j => (ids[j]?).bind γ) b := by
    intro r x b hr hx hb hXb
    obtain ⟨r', x', h1, h2, h3⟩ := (hX b).1 hXb
    exact hI.apart r r' x x' b hx h2 (fun e => hr (e ▸ h1)) hb h3
  constructor
  · constructor
    case slots => exact RVs_mono hB.lean hext hI.slots
    case defers => exact hI.defers
    case gs =>
      intro r e t v h
      by_cases hr : N ≤ r ∧ r < M
      · rw [if_pos hr] at h
        obtain ⟨_, ⟨e', t', A, n, c, he⟩ | ⟨b', t', he, _⟩⟩ := hB.lim r _ h
        · cases he
          exact ⟨A, n, c, rfl⟩
        · cases he
      · rw [if_neg hr] at h
        exact hI.gs r e t v h
    case wfs =>
      intro r b t h
      by_cases hr : N ≤ r ∧ r < M
      · rw [if_pos hr] at h
        obtain ⟨_, ⟨e', t', A, n, c, he⟩ | ⟨b', t', he, hw⟩⟩ := hB.lim r _ h
        · cases he
        · cases he
          exact hw
      · rw [if_neg hr] at h
        exact hI.wfs r b t h
    case res =>
      intro r x h
      rcases hcase r x h with ⟨h1, h2⟩ | ⟨h1, h2, j, t, c, c0, h3, h4, rfl, h5⟩ | ⟨h1, h2, h3⟩
      · exact (hB.row r x h1).2.2.kept (fun _ _ _ h => h) (fun _ _ h => h) hextr ⟨rfl, rfl, rfl, Nat.le_refl _, fun _ _ _ => rfl⟩ (row := none) (fun b hb => by cases hb)
      · obtain ⟨b, arr, T, h6, h7, h8⟩ := hbox2 h3 h4
        exact ⟨b, arr, T, hext r _ h6, h7, RT_mono (fun _ _ _ h => h) hextr h8⟩
      · have hk := hI.res r x h3
        cases x with
        | box t c =>
          obtain ⟨b, arr, T, h4, h5, h6⟩ := hk
          have hb : blk γ r (.box t c) = some b := by simp [blk, h4]
          refine ⟨b, arr, T, hext r _ h4, ?_, RT_mono hB.lean hext h6⟩
          rw [hB.frame b (Array.getElem?_eq_some_iff.1 h5).1 (hstay r _ b h2 h3 hb)]
          exact h5
        | row e t xs fr =>
          obtain ⟨v, css, h4, h5, h6, h7⟩ := hk
          refine ⟨v, css, hext r _ h4, Els_mono hB.lean h5, ?_, ?_⟩
          · refine ⟨h6.1, ?_⟩
            rcases h6.2 with hn | ⟨g, cap, cur, rfl, hb0, hgg, rest⟩
            · exact .inl hn
            · refine .inr ⟨g, cap, cur, rfl, hb0, ?_, rest⟩
              have hb : blk γ r (.row e t xs fr) = some g := by simp [blk, h4, Value.ownBlock]
              rw [hB.frame g (Array.getElem?_eq_some_iff.1 hgg).1 (hstay r _ g h2 h3 hb)]
              exact hgg
          · intro hf b hb o ho
            have hp := h7 hf b hb o ho
            have hpin := hI.prIn b o hp
            have hcell : ∃ z, w.cell? ⟨b, o, none⟩ = some z := by
              have hlt : o < css.flatten.length := by rw [h5.flat]; exact ho
              refine ⟨css.flatten[o], ?_⟩
              have := h6.cells (g := b) hb o _ (List.getElem?_eq_getElem hlt)
              rwa [add_lit, Nat.zero_add] at this
            obtain ⟨z, hz⟩ := hcell
            exact (hB.lean b o z ⟨hp, hz⟩).1
        | old e t xs =>
          obtain ⟨v, h4, h5⟩ := hk
          exact ⟨v, hext r _ h4, RK_mono hB.lean h5⟩
    case apart =>
      intro r r' x x' b h h' hne hb
      have keyb : ∀ {r : Nat} {x : Res} {b : Nat}, r ∈ ids → (∃ (j : Nat) (t : Ty) (c c0 : SV), ids[j]? = some r ∧ ub[j]? = some (some x) ∧ x = Res.box t c ∧ get r = some (.box t c0)) → blk γ r x = some b → ∃ (j : Nat) (t : Ty) (c : SV), ids[j]? = some r ∧ ub[j]? = some (some (.box t c)) ∧ γ r = some (.box b t) ∧ ∃ y, get r = some y ∧ blk γ r y = some b := by
        intro r x b _ ⟨j, t, c, c0, h3, h4, hx, h5⟩ hb
        subst hx
        obtain ⟨b', arr, T, h6, _⟩ := hbox2 h3 h4
        have : b' = b := by simpa [blk, h6] using hb
        subst this
        exact ⟨j, t, c, h3, h4, h6, _, h5, by simp [blk, h6]⟩
      rcases hcase r x h with ⟨h1, h2⟩ | ⟨h1, h2, h3⟩ | ⟨h1, h2, h3⟩ <;> rcases hcase r' x' h' with ⟨k1, k2⟩ | ⟨k1, k2, k3⟩ | ⟨k1, k2, k3⟩
      · rw [hblkr r x h2] at hb
        rw [hblkr r' x' k2]
        exact hB.apart r r' x x' b h1 k1 hne hb
      · rw [hblkr r x h2] at hb
        rw [hblko r' x' k1]
        intro hb'
        obtain ⟨j, t, c, e1, e2, e3, _⟩ := keyb k2 k3 hb'
        exact hB.beside j t c b e2 (by simp [e1, e3]) r x h1 hb
      · rw [hblkr r x h2] at hb
        rw [hblko r' x' k1]
        intro hb'
        rcases hB.where_ r x b h1 hb with hw | hw
        · exact hstay r' x' b k2 k3 hb' hw
        · have := (hI.res r' x' k3).lt hb'
          omega
      · rw [hblko r x h1] at hb
        rw [hblkr r' x' k2]
        intro hb'
        obtain ⟨j, t, c, e1, e2, e3, _⟩ := keyb h2 h3 hb
        exact hB.beside j t c b e2 (by simp [e1, e3]) r' x' k1 hb'
      · rw [hblko r x h1] at hb
        rw [hblko r' x' k1]
        intro hb'
        obtain ⟨_, _, _, _, _, _, y, e4, e5⟩ := keyb h2 h3 hb
        obtain ⟨_, _, _, _, _, _, y', e4', e5'⟩ := keyb k2 k3 hb'
        exact hI.apart r r' y y' b e4 e4' hne e5 e5'
      · rw [hblko r x h1] at hb
        rw [hblko r' x' k1]
        intro hb'
        obtain ⟨_, _, _, _, _, _, y, e4, e5⟩ := keyb h2 h3 hb
        exact hI.apart r r' y x' b e4 k3 hne e5 hb'
      · rw [hblko r x h1] at hb
        rw [hblkr r' x' k2]
        intro hb'
        rcases hB.where_ r' x' b k1 hb' with hw | hw
        · exact hstay r x b h2 h3 hb hw
        · have := (hI.res r x h3).lt hb
          omega
      · rw [hblko r x h1] at hb
        rw [hblko r' x' k1]
        intro hb'
        obtain ⟨_, _, _, _, _, _, y', e4', e5'⟩ := keyb k2 k3 hb'
        exact hI.apart r r' x y' b h3 e4' hne hb e5'
      · rw [hblko r x h1] at hb
        rw [hblko r' x' k1]
        exact hI.apart r r' x x' b h3 k3 hne hb
    case loose =>
      intro r x b h hb o ho
      rcases hcase r x h with ⟨h1, h2⟩ | ⟨h1, h2, j, t, c, c0, h3, h4, rfl, h5⟩ | ⟨h1, h2, h3⟩
      · rw [hblkr r x h2] at hb
        exact hB.rowLoose r x b h1 hb o ho
      · rw [hblko r _ h1] at hb
        obtain ⟨b', arr, T, h6, _⟩ := hbox2 h3 h4
        have : b' = b := by simpa [blk, h6] using hb
        subst this
        exact absurd ho (hB.boxLoose j t c b' h4 (by simp [h3, h6]) o)
      · rw [hblko r x h1] at hb
        exact hI.loose r x b h3 hb o (hB.prOld b ((hI.res r x h3).lt hb) (hstay r x b h2 h3 hb) o ho)
    case where_ =>
      intro r x b h hb
      rcases hcase r x h with ⟨h1, h2⟩ | ⟨h1, h2, j, t, c, c0, h3, h4, rfl, h5⟩ | ⟨h1, h2, h3⟩
      · rw [hblkr r x h2] at hb
        rcases hB.where_ r x b h1 hb with hw | hw
        · obtain ⟨r', x', _, e2, e3⟩ := (hX b).1 hw
          exact hI.where_ r' x' b e2 e3
        · exact .inr (Nat.le_trans hI.size hw)
      · rw [hblko r _ h1] at hb
        refine hI.where_ r _ b h5 ?_
        obtain ⟨b', arr, T, h6, _⟩ := hbox2 h3 h4
        have : b' = b := by simpa [blk, h6] using hb
        subst this
        simp [blk, h6]
      · rw [hblko r x h1] at hb
        exact hI.where_ r x b h3 hb
    case frame =>
      intro k hk hx
      have hnX : ¬ Xof tab (fun j => (ids[j]?).bind γ) k := by
        intro hXk
        obtain ⟨r', x', _, e2, e3⟩ := (hX k).1 hXk
        rcases hI.where_ r' x' k e2 e3 with h | h
        · exact hx h
        · omega
      rw [hB.frame k (Nat.lt_of_lt_of_le hk hI.size) hnX]
      exact hI.frame k hk hx
    case size => exact Nat.le_trans hI.size hB.size
    case os => exact hB.os.trans hI.os
    case tape => exact hB.tape.trans hI.tape
    case output => exact hB.output.trans hI.output
    case prIn => exact hB.prIn
    case prOld =>
      intro b hb hx o ho
      have hnX : ¬ Xof tab (fun j => (ids[j]?).bind γ) b := by
        intro hXk
        obtain ⟨r', x', _, e2, e3⟩ := (hX b).1 hXk
        rcases hI.where_ r' x' b e2 e3 with h | h
        · exact hx h
        · omega
      exact hI.prOld b hb hx o (hB.prOld b (Nat.lt_of_lt_of_le hb hI.size) hnX o ho)
    case pr0 => exact fun b o v h => hB.lean _ _ _ (hI.pr0 b o v h)
  · exact RVs_mono (fun _ _ _ h => h) hextr hB.vals
/-- One of what is led to stands under another number. -/
theorem Inv.move (hI : Inv w0 X Pr0 sl get γ Pr a w) {m r : Nat} {x : Res} (hm : get m = some x) (hr : get r = none) (hγ : γ r = γ m) : Inv w0 X Pr0 sl (fun s => if s = r then some x else if s = m then none else get s) γ Pr a w := by
  have hb : ∀ {s : Nat} {y : Res}, (if s = r then some x else if s = m then none else get s) = some y → ∃ s', get s' = some y ∧ γ s = γ s' ∧ (s = r → s' = m) ∧ (s ≠ r → s' = s ∧ s ≠ m) := by
    intro s y h
    by_cases h1 : s = r
    · rw [if_pos h1] at h
      cases h
      exact ⟨m, hm, by rw [h1, hγ], fun _ => rfl, fun h => absurd h1 h⟩
    · rw [if_neg h1] at h
      by_cases h2 : s = m
      · rw [if_pos h2] at h
        cases h
      · rw [if_neg h2] at h
        exact ⟨s, h, rfl, fun h => absurd h h1, fun _ => ⟨rfl, h2⟩⟩
  have hk : ∀ {s s' : Nat} {y : Res}, γ s = γ s' → blk γ s y = blk γ s' y := fun h => by rename_i y; cases y <;> simp only [blk, h]
  refine ⟨hI.slots, hI.defers, hI.gs, hI.wfs, ?_, ?_, ?_, ?_, hI.frame, hI.size, hI.os, hI.tape, hI.output, hI.prIn, hI.prOld, hI.pr0⟩
  · intro s y h
    obtain ⟨s', h1, h2, _⟩ := hb h
    have := hI.res s' y h1
    cases y with
    | box t c =>
      obtain ⟨b, arr, T, h3, h4⟩ := this
      exact ⟨b, arr, T, h2.trans h3, h4⟩
    | row e t xs fr =>
      obtain ⟨v, css, h3, h4⟩ := this
      exact ⟨v, css, h2.trans h3, h4⟩
    | old e t xs =>
      obtain ⟨v, h3, h4⟩ := this
      exact ⟨v, h2.trans h3, h4⟩
  · intro s s1 y y1 b h h' hne hbb
    obtain ⟨s', h1, h2, h3, h4⟩ := hb h
    obtain ⟨s1', h1', h2', h3', h4'⟩ := hb h'
    rw [hk h2] at hbb
    rw [hk h2']
    refine hI.apart s' s1' y y1 b h1 h1' ?_ hbb
    by_cases e1 : s = r <;> by_cases e2 : s1 = r
    · exact absurd (e1.trans e2.symm) hne
    · rw [h3 e1, (h4' e2).1]
      exact fun e => (h4' e2).2 e.symm
    · rw [h3' e2, (h4 e1).1]
      exact (h4 e1).2
    · rw [(h4 e1).1, (h4' e2).1]
      exact hne
  · intro s y b h hbb
    obtain ⟨s', h1, h2, _⟩ := hb h
    rw [hk h2] at hbb
    exact hI.loose s' y b h1 hbb
  · intro s y b h hbb
    obtain ⟨s', h1, h2, _⟩ := hb h
    rw [hk h2] at hbb
    exact hI.where_ s' y b h1 hbb
theorem getU_upd : ∀ {un : Up} {g : Nat → Option Res} {r : Nat}, getU un r (g r) = updG g un r
  | [], g, r => rfl
  | (k, v) :: l, g, r => by
    show (match Nat.beq k r with | true => getU l r v | false => getU l r (g r)) = updG (fun s => if s = k then v else g s) l r
    rw [← getU_upd]
    by_cases h : k = r
    · subst h
      simp
    · have : Nat.beq k r = false := by
        cases hb : Nat.beq k r with
        | false => rfl
        | true => exact absurd (Nat.eq_of_beq_eq_true hb) h
      rw [this, if_neg (fun e => h e.symm)]
theorem Inv.moves {un : Up} {ids : List Nat} : ∀ (l : List (Nat × Nat)) {get : Nat → Option Res}, Inv w0 X Pr0 sl get γ Pr a w → (l.map (·.1) ++ l.filterMap fun p => ids[p.2]?).Nodup →
    (∀ p ∈ l, ∀ x r, getU un p.1 none = some x → ids[p.2]? = some r → get p.1 = some x ∧ get r = none ∧ γ r = γ p.1) → Inv w0 X Pr0 sl (updG get (moves un ids l)) γ Pr a w
  | [], get, hI, _, _ => hI
  | (m, k) :: l, get, hI, hnd, h => by
    have hnd' : (l.map (·.1) ++ l.filterMap fun p => ids[p.2]?).Nodup := by
      rw [List.map_cons, List.cons_append] at hnd
      have h1 := (List.nodup_cons.1 hnd).2
      refine List.Sublist.nodup ?_ h1
      refine List.Sublist.append (List.Sublist.refl _) ?_
      exact List.Sublist.filterMap _ (List.sublist_cons_self _ _)
    unfold Abs.moves
    split
    · rename_i x r hx hr
      obtain ⟨h1, h2, h3⟩ := h (m, k) (by simp) x r hx hr
      have hI' := hI.move h1 h2 h3
      rw [List.map_cons, List.cons_append] at hnd
      obtain ⟨hm, hnd2⟩ := List.nodup_cons.1 hnd
      have hfm : ((m, k) :: l).filterMap (fun p => ids[p.2]?) = r :: l.filterMap (fun p => ids[p.2]?) := List.filterMap_cons_some (f := fun p : Nat × Nat => ids[p.2]?) hr
      rw [hfm] at hm hnd2
      refine Inv.moves l hI' hnd' fun p hp x' r' hx' hr' => ?_
      obtain ⟨h4, h5, h6⟩ := h p (List.mem_cons_of_mem _ hp) x' r' hx' hr'
      have hpm : p.1 ≠ m := fun e => hm (List.mem_append_left _ (List.mem_map.2 ⟨p, hp, e⟩))
      have hdis := List.nodup_append.1 hnd2
      have hpr : p.1 ≠ r := hdis.2.2 p.1 (List.mem_map.2 ⟨p, hp, rfl⟩) r (by simp)
      have hrr : r' ≠ r := fun e => (List.nodup_cons.1 hdis.2.1).1 (List.mem_filterMap.2 ⟨p, hp, by rw [hr', e]⟩)
      refine ⟨?_, ?_, h6⟩
      · simp only
        rw [if_neg hpr, if_neg hpm]
        exact h4
      · simp only
        rw [if_neg hrr]
        split
        · rfl
        · exact h5
    · exact Inv.moves l hI hnd' fun p hp => h p (List.mem_cons_of_mem _ hp)
end
end Go.Proofs.Ytcfnhfbaakflgaa.Abs
