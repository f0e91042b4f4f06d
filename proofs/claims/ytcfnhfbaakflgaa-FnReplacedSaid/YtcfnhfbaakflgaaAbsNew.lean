/- New blocks, and blocks that are turned. -/
import Derived.Test.YtcfnhfbaakflgaaAbsCore2
set_option linter.unusedVariables false
set_option linter.unusedSimpArgs false
set_option linter.unusedSectionVars false
namespace Go.Proofs.Ytcfnhfbaakflgaa.Abs
open Go Go.RowKit

/-- A number is given. -/
def give (γ : Nat → Option G) (k : Nat) (g : G) : Nat → Option G := fun s => if s = k then some g else γ s
section
variable {w0 : World} {X : Nat → Prop} {Pr0 : Nat → Nat → Prop} {sl : List SV} {get : Nat → Option Res} {γ : Nat → Option G} {Pr Pr' : Nat → Nat → Prop} {a : Act} {w w' : World} {r0 : Nat}
theorem give_ext (h : γ r0 = none) {g : G} : ∀ r x, γ r = some x → give γ r0 g r = some x := fun r x hr => by
  unfold give
  by_cases hk : r = r0
  · subst hk
    rw [h] at hr
    cases hr
  · rw [if_neg hk]
    exact hr
theorem give_same {g : G} : give γ r0 g r0 = some g := if_pos rfl
theorem give_other {g : G} {r : Nat} (h : r ≠ r0) : give γ r0 g r = γ r := if_neg h
theorem Inv.none_of (hI : Inv w0 X Pr0 sl get γ Pr a w) {r : Nat} (h : γ r = none) : get r = none := by
  cases hg : get r with
  | none => rfl
  | some x =>
    obtain ⟨g, hg⟩ := (hI.res r x hg).γsome
    rw [h] at hg
    cases hg
/-- A row or a variable under a new number. -/
theorem Inv.fresh (hI : Inv w0 X Pr0 sl get γ Pr a w) (h0 : γ r0 = none) (row : Option Nat) (hg : w.grownBy w' row) (g : G) (hgs : ∀ e t v, g = .row e t v → ∃ A n c, v = .slice A n c) (hwf : ∀ b t, g = .box b t → WfB false t = true) (x' : Res)
    (hrow : ∀ b, row = some b → (X b ∨ w0.heap.size ≤ b) ∧ ∀ r x, get r = some x → blk γ r x ≠ some b)
    (hP : ∀ b o, Pr b o → Pr' b o) (hP' : ∀ b o, Pr' b o → Pr b o ∨ blk (give γ r0 g) r0 x' = some b ∧ mayLean x' o)
    (hcell : ∀ b o v, row = some b → Pr b o → w.cell? ⟨b, o, none⟩ = some v → w'.cell? ⟨b, o, none⟩ = some v)
    (hres : ResOk (Ln Pr' w') Pr' (give γ r0 g) w' r0 x') (hblk : ∀ b, blk (give γ r0 g) r0 x' = some b → row = some b ∨ w.heap.size ≤ b)
    (hloose : ∀ b, blk (give γ r0 g) r0 x' = some b → ∀ o, Pr b o → mayLean x' o) : Inv w0 X Pr0 sl (fun s => if s = r0 then some x' else get s) (give γ r0 g) Pr' a w' := by
  refine hI.turn r0 (some x') row hg (give_ext h0) (fun r hr => give_other hr) ?_ (fun b t h => hwf b t (by rw [give_same] at h; simpa using h)) (fun b hb => ⟨(hrow b hb).1, fun r x _ hx => (hrow b hb).2 r x hx⟩) hP ?_ hcell ?_ ?_
  · intro e t v h
    rw [give_same] at h
    exact hgs e t v (by simpa using h)
  · intro b o h
    rcases hP' b o h with h | h
    · exact .inl h
    · exact .inr ⟨x', rfl, h⟩
  · intro x hx
    cases hx
    exact hres
  · intro x b hx hb
    cases hx
    refine ⟨?_, ?_, hloose b hb⟩
    · rcases hblk b hb with h | h
      · exact (hrow b h).1
      · exact .inr (Nat.le_trans hI.size h)
    · intro r y hr hy
      rcases hblk b hb with h | h
      · exact (hrow b h).2 r y hy
      · intro hyb
        have := (hI.res r y hy).lt hyb
        omega
/-- A variable is made. -/
theorem Inv.newBox (hI : Inv w0 X Pr0 sl get γ Pr a w) (h0 : γ r0 = none) {t : Ty} {c : SV} {cs : Array Value} {T : TypeId} (hwf : WfB false t = true) (hc : RT (Ln Pr w) γ t c cs.toList) :
    Inv w0 X Pr0 sl (fun s => if s = r0 then some (.box t c) else get s) (give γ r0 (.box w.heap.size t)) Pr a (w.alloc (.cells cs T)) := by
  refine hI.fresh h0 none (World.grownBy_alloc w _ none) _ (fun e t v h => by cases h) (fun b t h => by cases h; exact hwf) _ (fun b hb => by cases hb) (fun _ _ h => h) (fun b o h => .inl h) (fun b o v hb => by cases hb) ?_ ?_ ?_
  · refine ⟨w.heap.size, cs, T, give_same, heap_alloc_new w _, RT_mono ?_ (give_ext h0) hc⟩
    exact Ln_turn hI.prIn (World.grownBy_alloc w _ none) (fun _ _ h => h) (fun b o v hb => by cases hb)
  · intro b hb
    simp only [blk, give_same, Option.some.injEq] at hb
    exact .inr (by omega)
  · intro b hb o ho
    simp only [blk, give_same, Option.some.injEq] at hb
    have := hI.prIn b o ho
    omega
theorem Els_app {L : Lk} {t : Ty} {xs ys : List t.den} {css dss : List (List Value)} (h : Els L t xs css) (k : Els L t ys dss) : Els L t (xs ++ ys) (css ++ dss) := by
  refine ⟨by rw [List.length_append, List.length_append, h.1, k.1], fun i hi hi' => ?_⟩
  by_cases hx : i < xs.length
  · rw [List.getElem_append_left hx, List.getElem_append_left (by rw [h.1]; exact hx)]
    exact h.2 i hx _
  · rw [List.getElem_append_right (by omega), List.getElem_append_right (by rw [h.1]; omega)]
    have := k.2 (i - xs.length) (by rw [List.length_append] at hi; omega) (by rw [k.1]; rw [List.length_append] at hi; omega)
    simpa only [h.1] using this
theorem Els.flat {L : Lk} {t : Ty} {xs : List t.den} {css : List (List Value)} (h : Els L t xs css) : css.flatten.length = xs.length * t.sz := by
  rw [← h.1]
  have : ∀ (l : List (List Value)), (∀ c ∈ l, c.length = t.sz) → l.flatten.length = l.length * t.sz := by
    intro l
    induction l with
    | nil => intro _; simp
    | cons c l ih =>
      intro hl
      rw [List.flatten_cons, List.length_append, List.length_cons, Nat.succ_mul, ih (fun d hd => hl d (List.mem_cons_of_mem _ hd)), hl c (by simp)]
      omega
  exact this css h.lens
/-- A row in a block of its own is made. -/
theorem Inv.newRow (hI : Inv w0 X Pr0 sl get γ Pr a w) (h0 : γ r0 = none) {e : TypeId} {t : Ty} {xs : List t.den} {css : List (List Value)} {cs : Array Value} (hc : Els (Ln Pr w) t xs css) (hf : css.flatten = cs.toList) (hm : xs.length ≤ maxLen) :
    Inv w0 X Pr0 sl (fun s => if s = r0 then some (.row e t xs false) else get s) (give γ r0 (.row e t (.slice (some ⟨w.heap.size, 0, none⟩) xs.length xs.length))) Pr a (w.alloc (.cells cs e)) := by
  refine hI.fresh h0 none (World.grownBy_alloc w _ none) _ (fun e t v h => by cases h; exact ⟨_, _, _, rfl⟩) (fun b t h => by cases h) _ (fun b hb => by cases hb) (fun _ _ h => h) (fun b o h => .inl h) (fun b o v hb => by cases hb) ?_ ?_ ?_
  · refine ⟨_, css, give_same, Els_mono (Ln_turn hI.prIn (World.grownBy_alloc w _ none) (fun _ _ h => h) (fun b o v hb => by cases hb)) hc, ?_, fun h => by cases h⟩
    rw [hf]
    refine World.ownsRow_lit w cs xs.length (Nat.zero_le _) hm ?_
    rw [← Array.length_toList, ← hf, hc.flat]
  · intro b hb
    simp only [blk, give_same, Value.ownBlock, Option.some.injEq] at hb
    exact .inr (by omega)
  · intro b hb o ho
    simp only [blk, give_same, Value.ownBlock, Option.some.injEq] at hb
    have := hI.prIn b o ho
    omega
/-- A row of nothing. -/
theorem Inv.nilRow (hI : Inv w0 X Pr0 sl get γ Pr a w) (h0 : γ r0 = none) {e : TypeId} {t : Ty} :
    Inv w0 X Pr0 sl (fun s => if s = r0 then some (.row e t [] false) else get s) (give γ r0 (.row e t (.slice none 0 0))) Pr a w := by
  refine hI.fresh h0 none ⟨rfl, rfl, rfl, Nat.le_refl _, fun _ _ _ => rfl⟩ _ (fun e t v h => by cases h; exact ⟨_, _, _, rfl⟩) (fun b t h => by cases h) _ (fun b hb => by cases hb) (fun _ _ h => h) (fun b o h => .inl h) (fun b o v hb => by cases hb) ?_ ?_ ?_
  · exact ⟨_, [], give_same, ⟨rfl, fun i hi => by simp at hi⟩, World.ownsRow_nil w 0 e t.sz, fun h => by cases h⟩
  · intro b hb
    simp [blk, give_same, Value.ownBlock] at hb
  · intro b hb
    simp [blk, give_same, Value.ownBlock] at hb
theorem RT_one (hgs : ∀ r e t v, γ r = some (.row e t v) → ∃ A n c, v = .slice A n c) {L : Lk} {t : Ty} {v : SV} {cs : List Value} (h : RT L γ t v cs) : ∀ x ∈ cs, x.oneCell' = true := by
  induction h using RT.rec (motive_2 := fun t _ cs _ => ∀ x ∈ cs, x.oneCell' = true) with
  | val h => exact RK_one h
  | nilS =>
    intro x hx
    rw [List.mem_singleton.1 hx]
    rfl
  | row h =>
    intro x hx
    rw [List.mem_singleton.1 hx]
    obtain ⟨A, n, c, rfl⟩ := hgs _ _ _ _ h
    rfl
  | strct h ih => exact ih
  | nil => rename_i x hx; simp at hx
  | cons h k ih1 ih2 =>
    rename_i x hx
    rcases List.mem_append.1 hx with hx | hx
    · exact ih1 x hx
    · exact ih2 x hx
theorem RT_cells (hgs : ∀ r e t v, γ r = some (.row e t v) → ∃ A n c, v = .slice A n c) {L : Lk} {t : Ty} {v : SV} {cs : List Value} (h : RT L γ t v cs) (ht : t.sz = 1 ∨ ∃ u, t = .agg u) : (mk t cs).cells = cs.toArray := by
  rcases ht with ht | ⟨u, rfl⟩
  · obtain ⟨x, rfl⟩ := List.length_eq_one_iff.1 ((RT_len h).trans ht)
    have h1 := RT_one hgs h x (by simp)
    cases t <;> first | rfl | (show x.cells = #[x]; cases x <;> first | rfl | cases h1)
  · rfl
end
/-- A row goes on under a new number. -/
theorem Inv.rebind {w0 : World} {X : Nat → Prop} {Pr0 : Nat → Nat → Prop} {sl : List SV} {get : Nat → Option Res} {γ : Nat → Option G} {Pr : Nat → Nat → Prop} {a : Act} {w w' : World} {r r0 : Nat} (hI : Inv w0 X Pr0 sl get γ Pr a w)
    {e : TypeId} {t : Ty} {xs xs' : List t.den} {fr : Bool} {css' : List (List Value)} {v v' : Value} (hr : get r = some (.row e t xs fr)) (h0 : γ r0 = none) (hv : γ r = some (.row e t v)) (hg : w.grownBy w' v.ownBlock)
    (hown : w'.ownsRow 0 e t.sz v' xs'.length css'.flatten) (hels : Els (Ln Pr w) t xs' css') (hcells : fr = true → ∀ b, v.ownBlock = some b → ∀ o, o < xs.length * t.sz → w'.cell? ⟨b, o, none⟩ = w.cell? ⟨b, o, none⟩)
    (hgs : ∃ A n c, v' = .slice A n c) (hwh : ∀ b, v'.ownBlock = some b → v.ownBlock = some b ∨ w.heap.size ≤ b) (hlen : fr = true → xs.length ≤ xs'.length) :
    ∃ Pr', Inv w0 X Pr0 sl (fun s => if s = r0 then some (.row e t xs' fr) else if s = r then (oldOf e t xs fr) else get s) (give γ r0 (.row e t v')) Pr' a w' ∧ ∀ b o, Pr b o → Pr' b o := by
  have hbr : ∀ b, v.ownBlock = some b → blk γ r (.row e t xs fr) = some b := fun b hb => by simp only [blk, hv, hb]
  have hI1 : Inv w0 X Pr0 sl (fun s => if s = r then (oldOf e t xs fr) else get s) γ Pr a w := by
    refine hI.turn r _ none ⟨rfl, rfl, rfl, Nat.le_refl _, fun _ _ _ => rfl⟩ (fun _ _ h => h) (fun _ _ => rfl) (fun e t v h => hI.gs r e t v h) (fun b t h => hI.wfs r b t h) (fun b hb => by cases hb) (fun b o h => h) (fun b o h => .inl h) (fun b o v hb => by cases hb) ?_ ?_
    · intro x hx
      cases fr with
      | false => cases hx
      | true =>
        cases hx
        have hres := hI.res r _ hr
        exact row_RK hres (fun _ _ h => h) (fun b hb o ho => by
          obtain ⟨v1, css, h1, h2, h3, h4⟩ := hres
          refine h4 rfl b ?_ o ho
          simpa [blk, h1] using hb)
    · intro x b hx hb
      cases fr with
      | false => cases hx
      | true =>
        cases hx
        cases hb
  have hne : r ≠ r0 := fun h => by rw [← h, hv] at h0; cases h0
  have hother : ∀ b, v.ownBlock = some b → (X b ∨ w0.heap.size ≤ b) ∧ ∀ r' x, r' ≠ r0 → (if r' = r then (oldOf e t xs fr) else get r') = some x → blk γ r' x ≠ some b := by
    intro b hb
    refine ⟨hI.where_ r _ b hr (hbr b hb), fun r' x _ hx => ?_⟩
    by_cases hrr : r' = r
    · rw [if_pos hrr] at hx
      cases fr with
      | false => cases hx
      | true =>
        cases hx
        intro h
        cases h
    · rw [if_neg hrr] at hx
      exact hI.apart r r' _ x b hr hx (fun e => hrr e.symm) (hbr b hb)
  have hbl : ∀ b, blk (give γ r0 (.row e t v')) r0 (.row e t xs' fr) = some b → v'.ownBlock = some b := fun b hb => by simpa [blk, give_same] using hb
  refine ⟨fun b o => Pr b o ∨ (fr = true ∧ v'.ownBlock = some b ∧ o < xs'.length * t.sz), ?_, fun b o h => .inl h⟩
  have hcell : ∀ b o u, v.ownBlock = some b → Pr b o → w.cell? ⟨b, o, none⟩ = some u → w'.cell? ⟨b, o, none⟩ = some u := by
    intro b o u hb ho hu
    have hl := hI.loose r _ b hr (hbr b hb) o ho
    cases fr with
    | false => exact hl.elim
    | true =>
      rw [hcells rfl b hb o hl]
      exact hu
  refine hI1.turn r0 _ v.ownBlock hg (give_ext h0) (fun s hs => give_other hs) ?_ (fun b t h => by rw [give_same] at h; cases h) hother (fun b o h => .inl h) ?_ hcell ?_ ?_
  · intro e' t' v1 h
    rw [give_same] at h
    cases h
    exact hgs
  · intro b o h
    rcases h with h | ⟨h1, h2, h3⟩
    · exact .inl h
    · refine .inr ⟨_, rfl, by simp [blk, give_same, h2], ?_⟩
      subst h1
      exact h3
  · intro x hx
    cases hx
    refine ⟨v', css', give_same, Els_mono ?_ hels, hown, fun h b hb o ho => .inr ⟨h, hb, ho⟩⟩
    exact Ln_turn hI.prIn hg (fun b o h => .inl h) hcell
  · intro x b hx hb
    cases hx
    have hb' := hbl b hb
    rcases hwh b hb' with h | h
    · obtain ⟨h1, h2⟩ := hother b h
      refine ⟨h1, h2, fun o ho => ?_⟩
      have hl := hI.loose r _ b hr (hbr b h) o ho
      cases fr with
      | false => exact hl.elim
      | true => exact Nat.lt_of_lt_of_le hl (Nat.mul_le_mul_right _ (hlen rfl))
    · refine ⟨.inr (Nat.le_trans hI.size h), fun r' y _ hy hyb => ?_, fun o ho => ?_⟩
      · have := (hI1.res r' y hy).lt hyb
        omega
      · have := hI.prIn b o ho
        omega
section
variable {P : Program} {E : Env} {call : (I : FnI) → List SV → Tab → Option (I.sh.den × I.bx.den)} {w0 : World} {X : Nat → Prop} {Pr0 : Nat → Nat → Prop} {sl : List SV} {get : Nat → Option Res} {γ : Nat → Option G} {Pr : Nat → Nat → Prop}
  {a : Act} {w : World} {res : Tab} {r0 : Nat} {o : Oper} {vs : List SV} {v : SV} {u : Up}
theorem give_far {g : G} : ∀ r, ¬ (r0 ≤ r ∧ r < r0 + 64) → give γ r0 g r = γ r := fun r h => give_other (fun e => h (by omega))
theorem ground_le : ∀ (t : Ty), (∀ (v : SV) (n : Nat), n ≤ (ground t v n).2.2) ∧ (∀ (l : List SV) (n : Nat), n ≤ (ground.go t l n).2.2)
  | .int _ => ⟨fun v n => Nat.le_refl _, fun l n => Nat.le_refl _⟩
  | .bool => ⟨fun v n => Nat.le_refl _, fun l n => Nat.le_refl _⟩
  | .str => ⟨fun v n => Nat.le_refl _, fun l n => Nat.le_refl _⟩
  | .unit => ⟨fun v n => Nat.le_refl _, fun l n => Nat.le_refl _⟩
  | .slice _ _ => ⟨fun v n => by cases v <;> first | exact Nat.le_refl _ | exact Nat.le_succ _, fun l n => Nat.le_refl _⟩
  | .agg t => ⟨fun v n => by
      cases v <;> first | exact Nat.le_refl _ | skip
      rename_i l
      exact (ground_le t).2 l n, fun l n => Nat.le_refl _⟩
  | .pair x y => ⟨fun v n => Nat.le_refl _, fun l n => by
      cases l with
      | nil => exact Nat.le_refl _
      | cons v l => exact Nat.le_trans ((ground_le x).1 v n) ((ground_le y).2 l (ground x v n).2.2)⟩
theorem RT_RV' {L : Lk} {γ : Nat → Option G} {t : Ty} {l : List SV} {cs : List Value} (h : RT L γ t (.strct l) cs) : RV L γ (.strct l) (.agg cs.toArray) := by
  cases h with
  | strct h => exact .strct h
theorem ground_ok : ∀ (t : Ty), (∀ (v : SV) (n : Nat) (t0 : Ty) (cs : List Value) (get : Nat → Option Res) (γ : Nat → Option G), Inv w0 X Pr0 sl get γ Pr a w → (∀ r, n ≤ r → r < (ground t v n).2.2 → γ r = none) → RT (Ln Pr w) γ t0 v cs →
      ∃ γ' t', Inv w0 X Pr0 sl (updG get (ground t v n).2.1) γ' Pr a w ∧ RT (Ln Pr w) γ' t' (ground t v n).1 cs ∧ (∀ r, ¬ (n ≤ r ∧ r < (ground t v n).2.2) → γ' r = γ r) ∧ (t0 = t → t' = t)) ∧
    (∀ (l : List SV) (n : Nat) (t0 : Ty) (cs : List Value) (get : Nat → Option Res) (γ : Nat → Option G), Inv w0 X Pr0 sl get γ Pr a w → (∀ r, n ≤ r → r < (ground.go t l n).2.2 → γ r = none) → RTs (Ln Pr w) γ t0 l cs →
      ∃ γ' t', Inv w0 X Pr0 sl (updG get (ground.go t l n).2.1) γ' Pr a w ∧ RTs (Ln Pr w) γ' t' (ground.go t l n).1 cs ∧ (∀ r, ¬ (n ≤ r ∧ r < (ground.go t l n).2.2) → γ' r = γ r) ∧ (t0 = t → t' = t))
  | .int _ => ⟨fun v n t0 cs get γ hI hf h => ⟨γ, t0, hI, h, fun _ _ => rfl, id⟩, fun l n t0 cs get γ hI hf h => ⟨γ, t0, hI, h, fun _ _ => rfl, id⟩⟩
  | .bool => ⟨fun v n t0 cs get γ hI hf h => ⟨γ, t0, hI, h, fun _ _ => rfl, id⟩, fun l n t0 cs get γ hI hf h => ⟨γ, t0, hI, h, fun _ _ => rfl, id⟩⟩
  | .str => ⟨fun v n t0 cs get γ hI hf h => ⟨γ, t0, hI, h, fun _ _ => rfl, id⟩, fun l n t0 cs get γ hI hf h => ⟨γ, t0, hI, h, fun _ _ => rfl, id⟩⟩
  | .unit => ⟨fun v n t0 cs get γ hI hf h => ⟨γ, t0, hI, h, fun _ _ => rfl, id⟩, fun l n t0 cs get γ hI hf h => ⟨γ, t0, hI, h, fun _ _ => rfl, id⟩⟩
  | .slice e t => ⟨fun v n t0 cs get γ hI hf h => by
      cases h with
      | nilS =>
        have h0 : γ n = none := hf n (Nat.le_refl _) (Nat.lt_succ_self _)
        refine ⟨give γ n (.row e t (.slice none 0 0)), .slice e t, hI.nilRow h0, .row give_same, fun r hr => ?_, fun _ => rfl⟩
        exact if_neg (fun e => hr (by subst e; exact ⟨Nat.le_refl _, Nat.lt_succ_self _⟩))
      | val h => exact ⟨γ, t0, hI, .val h, fun _ _ => rfl, id⟩
      | row h => exact ⟨γ, _, hI, .row h, fun _ _ => rfl, id⟩
      | strct h => exact ⟨γ, _, hI, .strct h, fun _ _ => rfl, id⟩, fun l n t0 cs get γ hI hf h => ⟨γ, t0, hI, h, fun _ _ => rfl, id⟩⟩
  | .agg t => ⟨fun v n t0 cs get γ hI hf h => by
      cases h with
      | strct h =>
        obtain ⟨γ', t', h1, h2, h3, h4⟩ := (ground_ok t).2 _ n _ cs get γ hI hf h
        exact ⟨γ', .agg t', h1, .strct h2, h3, fun e => by cases e; rw [h4 rfl]⟩
      | nilS =>
        rename_i e0 t1
        exact ⟨γ, .slice e0 t1, hI, .nilS, fun _ _ => rfl, id⟩
      | val h => exact ⟨γ, t0, hI, .val h, fun _ _ => rfl, id⟩
      | row h => exact ⟨γ, _, hI, .row h, fun _ _ => rfl, id⟩, fun l n t0 cs get γ hI hf h => ⟨γ, t0, hI, h, fun _ _ => rfl, id⟩⟩
  | .pair x y => ⟨fun v n t0 cs get γ hI hf h => ⟨γ, t0, hI, h, fun _ _ => rfl, id⟩, fun l n t0 cs get γ hI hf h => by
      cases h with
      | nil => exact ⟨γ, _, hI, .nil, fun _ _ => rfl, id⟩
      | cons hv hk =>
        rename_i ta tb v l c d
        have l1 := (ground_le x).1 v n
        have l2 := (ground_le y).2 l (ground x v n).2.2
        have hf' : ∀ r, n ≤ r → r < (ground.go y l (ground x v n).2.2).2.2 → γ r = none := hf
        obtain ⟨γ1, t1, h1, h2, h3, q1⟩ := (ground_ok x).1 v n ta c get γ hI (fun r hr1 hr2 => hf' r hr1 (by omega)) hv
        have hext : ∀ r g, γ r = some g → γ1 r = some g := fun r g hg => by
          rw [h3 r (fun hr => by rw [hf' r hr.1 (by omega)] at hg; cases hg)]
          exact hg
        obtain ⟨γ2, t2, h4, h5, h6, q2⟩ := (ground_ok y).2 l (ground x v n).2.2 tb d _ γ1 h1 (fun r hr1 hr2 => by
          rw [h3 r (fun hr => by omega)]
          exact hf' r (by omega) hr2) (RTs_mono (fun _ _ _ h => h) hext hk)
        have hext2 : ∀ r g, γ1 r = some g → γ2 r = some g := fun r g hg => by
          by_cases hr : (ground x v n).2.2 ≤ r ∧ r < (ground.go y l (ground x v n).2.2).2.2
          · rw [h3 r (fun hr' => by omega), hf' r (by omega) hr.2] at hg
            cases hg
          · rw [h6 r hr]
            exact hg
        refine ⟨γ2, .pair t1 t2, ?_, .cons (RT_mono (fun _ _ _ h => h) hext2 h2) h5, fun r hr => ?_, fun e => by cases e; rw [q1 rfl, q2 rfl]⟩
        · show Inv w0 X Pr0 sl (updG get ((ground x v n).2.1 ++ (ground.go y l (ground x v n).2.2).2.1)) γ2 Pr a w
          rw [updG_append]
          exact h4
        · have hr' : ¬ (n ≤ r ∧ r < (ground.go y l (ground x v n).2.2).2.2) := hr
          rw [h6 r (fun h => hr' ⟨by omega, h.2⟩), h3 r (fun h => hr' ⟨h.1, by omega⟩)]⟩
theorem ground_keys : ∀ (t : Ty), (∀ (v : SV) (n : Nat), ∀ p ∈ (ground t v n).2.1, n ≤ p.1 ∧ p.1 < (ground t v n).2.2) ∧ (∀ (l : List SV) (n : Nat), ∀ p ∈ (ground.go t l n).2.1, n ≤ p.1 ∧ p.1 < (ground.go t l n).2.2)
  | .int _ => ⟨fun v n p hp => by simp [ground] at hp, fun l n p hp => by simp [ground.go] at hp⟩
  | .bool => ⟨fun v n p hp => by simp [ground] at hp, fun l n p hp => by simp [ground.go] at hp⟩
  | .str => ⟨fun v n p hp => by simp [ground] at hp, fun l n p hp => by simp [ground.go] at hp⟩
  | .unit => ⟨fun v n p hp => by simp [ground] at hp, fun l n p hp => by simp [ground.go] at hp⟩
  | .slice _ _ => ⟨fun v n p hp => by
      cases v <;> simp only [ground, List.not_mem_nil, List.mem_singleton] at hp ⊢
      subst hp
      exact ⟨Nat.le_refl _, Nat.lt_succ_self _⟩, fun l n p hp => by simp [ground.go] at hp⟩
  | .agg t => ⟨fun v n p hp => by
      cases v <;> first | (simp only [ground, List.not_mem_nil] at hp; done) | skip
      exact (ground_keys t).2 _ n p hp, fun l n p hp => by simp [ground.go] at hp⟩
  | .pair x y => ⟨fun v n p hp => by simp [ground] at hp, fun l n p hp => by
      cases l with
      | nil => simp [ground.go] at hp
      | cons v l =>
        have hp' : p ∈ (ground x v n).2.1 ++ (ground.go y l (ground x v n).2.2).2.1 := hp
        have l1 := (ground_le x).1 v n
        have l2 := (ground_le y).2 l (ground x v n).2.2
        show n ≤ p.1 ∧ p.1 < (ground.go y l (ground x v n).2.2).2.2
        rcases List.mem_append.1 hp' with hp | hp
        · have := (ground_keys x).1 v n p hp
          omega
        · have := (ground_keys y).2 l _ p hp
          omega⟩
theorem updG_not : ∀ {u : Up} {get : Nat → Option Res} {r : Nat}, (∀ p ∈ u, p.1 ≠ r) → updG get u r = get r
  | [], _, _, _ => rfl
  | (k, x) :: u, get, r, h => by
    show updG (fun s => if s = k then x else get s) u r = get r
    rw [updG_not (fun p hp => h p (List.mem_cons_of_mem _ hp))]
    exact if_neg (fun e => h (k, x) (by simp) e.symm)
theorem offP_nil (t : Ty) : offP t [] = some (0, t) := by cases t <;> rfl
theorem op_alloc (H : Ahead P E call w0 X Pr0 sl get γ Pr a w res r0 o vs v u) {T : TypeId} (hop : o.op = .alloc T) : Done P w0 X Pr0 sl get γ Pr a w r0 o v u := by
  obtain ⟨hE, hI, hk, hfr, hv, hc⟩ := H
  unfold core at hc
  simp only [hop] at hc
  have hc' : (match nth E.ty T with
    | some t => match ground t (dfltSV t) (r0 + 1) with
      | (c, u, m) => match Nat.ble m (r0 + 64) with | true => ans (.ptr r0 t []) (u ++ [(r0, some (.box t c))]) | false => none
    | none => none) = some (v, u) := by
    rcases vs with _ | ⟨v1, _ | ⟨v2, _ | ⟨v3, vs⟩⟩⟩ <;> exact hc
  split at hc'
  · rename_i t hT
    split at hc'
    rename_i c u' m hgr
    split at hc'
    · rename_i hm
      cases hc'
      have hm := Nat.le_of_ble_eq_true hm
      have e1 : (ground t (dfltSV t) (r0 + 1)).1 = c := by rw [hgr]
      have e2 : (ground t (dfltSV t) (r0 + 1)).2.1 = u' := by rw [hgr]
      have e3 : (ground t (dfltSV t) (r0 + 1)).2.2 = m := by rw [hgr]
      obtain ⟨i, hi, hs, z, hz, hzc⟩ := (nth_ok hE hT).2.info
      obtain ⟨γ', t', hI', hrt, hγ, hty⟩ := (ground_ok (w0 := w0) (X := X) (Pr0 := Pr0) (sl := sl) (Pr := Pr) (a := a) (w := w) t).1 (dfltSV t) (r0 + 1) t (zc t) get γ hI (fun r h1 h2 => hfr r (by omega) (by omega)) ((dflt_ok t).1 (nth_ok hE hT).2.wf)
      have := hty rfl
      subst this
      rw [e1] at hrt
      rw [e2] at hI'
      have h0 : γ' r0 = none := by
        rw [hγ r0 (fun h => by omega)]
        exact hfr r0 (Nat.le_refl _) (by omega)
      have hbox := hI'.newBox h0 (c := c) (t := t') (cs := z.cells) (T := T) (nth_ok hE hT).2.wf (by rw [hzc]; exact hrt)
      refine owes_new (u := .pointer (some ⟨w.heap.size, 0, none⟩)) (get' := updG get (u' ++ [(r0, some (.box t' c))])) (by rw [updG_append]; exact hbox) ?_ (.ptr give_same (offP_nil t')) (fun r hr => (give_far r hr).trans (hγ r (fun h => hr ⟨by omega, by omega⟩)))
      simp only [execOp, hop, Instr.alloc, zeroValue, typeInfo, Sem.run_bind, run_program, hi, Sem.run_pure, Result.andThen_ok, hz, newVar, newRow, run_newObj_alloc]
    · cases hc'
  · cases hc'
theorem op_box (H : Ahead P E call w0 X Pr0 sl get γ Pr a w res r0 o vs v u) {T : TypeId} {i : Operand} (hop : o.op = .box T i) : Done P w0 X Pr0 sl get γ Pr a w r0 o v u := by
  obtain ⟨hE, hI, hk, hfr, hv, hc⟩ := H
  rw [hop] at hv
  obtain ⟨p, rfl, hp⟩ := RVs_one hv
  unfold core at hc
  simp only [hop] at hc
  split at hc
  · rename_i t hT
    split at hc
    · rename_i hf
      cases hc
      have h0 : γ r0 = none := hfr r0 (Nat.le_refl _) (by omega)
      obtain ⟨cs, hx, hrt⟩ := fits_RV (hI.tys hk) hp hf
      have hwf := (nth_ok hE hT).2.wf
      have hsp : RT (Ln Pr w) γ t (spread p) cs := spread_ok hrt (fun u hu => by subst hu; exact Wf_flds hwf)
      have hbox := hI.newBox h0 (cs := cs.toArray) (T := T) hwf (by simpa using hsp)
      refine owes_new (u := .pointer (some ⟨w.heap.size, 0, none⟩)) hbox ?_ (.ptr give_same (by cases t <;> rfl)) give_far
      have hcells := RT_cells hI.gs hrt (nth_ok hE hT).2.one
      simp only [execOp, hop, Instr.box, hx, Sem.run_bind, Sem.run_pure, Result.andThen_ok, newVar, newRow, run_newObj_alloc, hcells]
    · cases hc
  · cases hc
end
end Go.Proofs.Ytcfnhfbaakflgaa.Abs
