/- Formulas that are right: what both sides ask is one thing. -/
import Derived.Test.YtiligfmembmapaaGreatDoorZPV2
set_option linter.unusedVariables false
set_option linter.unusedSimpArgs false
set_option linter.unusedSectionVars false
namespace Go.Proofs.YtiligfmembmapaaGreatDoor.Abs
open Go

abbrev p0 : dPlace := ((0, 0, ()), false, false, ())
abbrev dFNode.kids (x : dFNode) : List Int := x.2.2.2.2.2.1
/-- May a function have so many arguments? -/
def okArgs (op k : Int) : Bool := if op = 5 then (decide (k = 2) || decide (k = 3)) else if inB op 1 7 = true then inB k 1 10 else if inB op 8 10 = true then decide (k = 1) else false
def kl (x : dFNode) : Int := (List.length x.2.2.2.2.2.1 : Int)
def okNode (x : dFNode) : Bool :=
  if x.1 = 1 then decide (x.2.1 = 0) && decide (x.2.2.2.1 = p0) && decide (x.2.2.2.2.1 = p0) && decide (kl x = 0) && okVal x.2.2.1 && !decide (x.2.2.1.1 = 0) && (!decide (x.2.2.1.1 = 1) || decide (0 ≤ x.2.2.1.2.1))
  else if x.1 = 2 then decide (x.2.1 = 0) && decide (x.2.2.1 = v0) && decide (x.2.2.2.2.1 = p0) && decide (kl x = 0) && okRef x.2.2.2.1.1
  else if x.1 = 3 then decide (x.2.1 = 0) && decide (x.2.2.1 = v0) && decide (kl x = 0) && okArea (x.2.2.2.1.1, x.2.2.2.2.1.1, ())
  else if x.1 = 4 then decide (x.2.1 = 0) && decide (x.2.2.1 = v0) && decide (x.2.2.2.1 = p0) && decide (x.2.2.2.2.1 = p0) && decide (kl x = 1)
  else if x.1 = 5 then inB x.2.1 1 11 && decide (x.2.2.1 = v0) && decide (x.2.2.2.1 = p0) && decide (x.2.2.2.2.1 = p0) && decide (kl x = 2)
  else if x.1 = 6 then okArgs x.2.1 (kl x) && decide (x.2.2.1 = v0) && decide (x.2.2.2.1 = p0) && decide (x.2.2.2.2.1 = p0)
  else false
theorem eqPl {a b : dPlace} : (eqB tPlace a b = true) = (a = b) := propext (eqB_iff rfl)
theorem eqVl {a b : dValue} : (eqB tValue a b = true) = (a = b) := propext (eqB_iff rfl)
theorem eqPlD (a b : dPlace) : eqB tPlace a b = decide (a = b) := by
  rw [Bool.eq_iff_iff, decide_eq_true_eq, eqPl]
theorem eqVlD (a b : dValue) : eqB tValue a b = decide (a = b) := by
  rw [Bool.eq_iff_iff, decide_eq_true_eq, eqVl]
theorem sl3Args_ok (op k : Int) : sl3Args op k = some ((okArgs op k, ()), ()) := by
  rw [sl3Args_eq]
  unfold okArgs inB
  simp only [beq_iff_eq, decide_eq_true_eq, ge_iff_le, beqI]
  by_cases h : op = 1 ∨ op = 2 ∨ op = 3 ∨ op = 4 ∨ op = 5 ∨ op = 6 ∨ op = 7 ∨ op = 8 ∨ op = 9 ∨ op = 10
  · by_cases hk : 1 ≤ k <;> by_cases hk2 : k = 2 <;> rcases h with rfl | rfl | rfl | rfl | rfl | rfl | rfl | rfl | rfl | rfl <;> simp [hk, hk2] <;> omega
  · have h1 : op ≠ 1 := by omega
    have h2 : op ≠ 2 := by omega
    have h3 : op ≠ 3 := by omega
    have h4 : op ≠ 4 := by omega
    have h5 : op ≠ 5 := by omega
    have h6 : op ≠ 6 := by omega
    have h7 : op ≠ 7 := by omega
    have h8 : op ≠ 8 := by omega
    have h9 : op ≠ 9 := by omega
    have h10 : op ≠ 10 := by omega
    have h11 : ¬ (1 ≤ op ∧ op ≤ 7) := by omega
    have h12 : ¬ (8 ≤ op ∧ op ≤ 10) := by omega
    simp only [h1, h2, h3, h4, h5, h6, h7, h8, h9, h10, h11, h12, if_false]
theorem and_ite {a b : Bool} : (if a = true then some ((b, ()), ()) else some ((false, ()), ())) = some ((a && b, ()), ()) := by cases a <;> rfl
theorem and_iteP {p : Prop} [Decidable p] {b : Bool} : (if p then some ((b, ()), ()) else some ((false, ()), ())) = some ((decide p && b, ()), ()) := by by_cases h : p <;> simp [h]
theorem sl3NodeOk_ok {x : dFNode} (h : x.2.2.1.2.2.1.size ≤ 9223372036854775807) : sl3NodeOk x = some ((okNode x, ()), ()) := by
  rw [sl3NodeOk_eq]
  unfold okNode kl
  simp only [sValueOk_ok h, sRefOk_ok, sAreaOk_ok, sl1In_ok, sl3Args_ok, Option.bind_some, beq_iff_eq, bne_iff_ne, ne_eq, eqPl, eqVl, eqPlD, eqVlD, beqI, v0, ge_iff_le]
  generalize (List.length x.2.2.2.2.2.1 : Int) = k
  by_cases h1 : x.1 = 1
  · by_cases a1 : x.2.1 = 0 <;> by_cases a2 : x.2.2.2.1 = p0 <;> by_cases a3 : x.2.2.2.2.1 = p0 <;> by_cases a4 : k = 0 <;> cases ov : okVal x.2.2.1 <;> by_cases a5 : x.2.2.1.1 = 0 <;> by_cases a6 : x.2.2.1.1 = 1 <;> simp [a1, a2, a3, a4, a5, a6, h1, ov]
  by_cases h2 : x.1 = 2
  · by_cases a1 : x.2.1 = 0 <;> by_cases a2 : x.2.2.1 = (0, 0, eS, ()) <;> by_cases a3 : x.2.2.2.2.1 = p0 <;> by_cases a4 : k = 0 <;> simp [a1, a2, a3, a4, h2]
  by_cases h3 : x.1 = 3
  · by_cases a1 : x.2.1 = 0 <;> by_cases a2 : x.2.2.1 = (0, 0, eS, ()) <;> by_cases a4 : k = 0 <;> simp [a1, a2, a4, h3]
  by_cases h4 : x.1 = 4
  · by_cases a1 : x.2.1 = 0 <;> by_cases a2 : x.2.2.1 = (0, 0, eS, ()) <;> by_cases a3 : x.2.2.2.1 = p0 <;> by_cases a4 : x.2.2.2.2.1 = p0 <;> simp [a1, a2, a3, a4, h4]
  by_cases h5 : x.1 = 5
  · cases hi : inB x.2.1 1 11 <;> by_cases a2 : x.2.2.1 = (0, 0, eS, ()) <;> by_cases a3 : x.2.2.2.1 = p0 <;> by_cases a4 : x.2.2.2.2.1 = p0 <;> simp [a2, a3, a4, h5, hi]
  by_cases h6 : x.1 = 6
  · cases hi : okArgs x.2.1 k <;> by_cases a2 : x.2.2.1 = (0, 0, eS, ()) <;> by_cases a3 : x.2.2.2.1 = p0 <;> simp [a2, a3, h6, hi]
  simp [h1, h2, h3, h4, h5, h6]
theorem iFNode_isOwn_ok {x : dFNode} (h : x.2.2.1.2.2.1.size ≤ 9223372036854775807) : iFNode_isOwn x = some ((okNode x, ()), ()) := by
  have c1 : ∀ a : dPlace, (p0 = a) = (a = p0) := fun a => propext eq_comm
  have c2 : ∀ a : dValue, ((0, 0, eS, ()) = a) = (a = (0, 0, eS, ())) := fun a => propext eq_comm
  rw [iFNode_isOwn_eq, iFNode_isPlaced_eq, iFNode_kidsOk_eq]
  unfold okNode kl okArgs
  simp only [iValueOk_ok h, iFNode_area_eq, iAreaOk_ok, iwithin_ok, Option.bind_some, beq_iff_eq, bne_iff_ne, ne_eq, eqPl, eqVl, eqPlD, eqVlD, beqI, v0, ge_iff_le, c1, c2]
  generalize (List.length x.2.2.2.2.2.1 : Int) = k
  by_cases h1 : x.1 = 1
  · simp only [h1, if_true]
    by_cases a1 : x.2.1 = 0 <;> by_cases a2 : x.2.2.2.1 = p0 <;> by_cases a3 : x.2.2.2.2.1 = p0 <;> by_cases a4 : k = 0 <;> cases okVal x.2.2.1 <;> by_cases a5 : x.2.2.1.1 = 0 <;> by_cases a6 : x.2.2.1.1 = 1 <;> by_cases a7 : x.2.2.1.2.1 < 0 <;> have a8 : (0 ≤ x.2.2.1.2.1) = ¬ x.2.2.1.2.1 < 0 := propext (by omega) <;> simp [a1, a2, a3, a4, a5, a6, a7, a8]
  by_cases h2 : x.1 = 2
  · have e : okArea (x.2.2.2.1.1, x.2.2.2.1.1, ()) = okRef x.2.2.2.1.1 := by
      unfold okArea
      simp
    by_cases a1 : x.2.1 = 0 <;> by_cases a2 : x.2.2.1 = (0, 0, eS, ()) <;> by_cases a3 : x.2.2.2.2.1 = p0 <;> by_cases a4 : k = 0 <;> cases hr : okRef x.2.2.2.1.1 <;> simp [a1, a2, a3, a4, h2, e, hr]
  by_cases h3 : x.1 = 3
  · by_cases a1 : x.2.1 = 0 <;> by_cases a2 : x.2.2.1 = (0, 0, eS, ()) <;> by_cases a4 : k = 0 <;> cases hr : okArea (x.2.2.2.1.1, x.2.2.2.2.1.1, ()) <;> simp [a1, a2, a4, h3, hr]
  by_cases h4 : x.1 = 4
  · by_cases a1 : x.2.1 = 0 <;> by_cases a2 : x.2.2.1 = (0, 0, eS, ()) <;> by_cases a3 : x.2.2.2.1 = p0 <;> by_cases a4 : x.2.2.2.2.1 = p0 <;> by_cases a5 : k = 1 <;> simp [a1, a2, a3, a4, a5, h4]
  by_cases h5 : x.1 = 5
  · cases hi : inB x.2.1 1 11 <;> by_cases a2 : x.2.2.1 = (0, 0, eS, ()) <;> by_cases a3 : x.2.2.2.1 = p0 <;> by_cases a4 : x.2.2.2.2.1 = p0 <;> by_cases a5 : k = 2 <;> simp [a2, a3, a4, a5, h5, hi]
  by_cases h6 : x.1 = 6
  · by_cases a2 : x.2.2.1 = (0, 0, eS, ()) <;> by_cases a3 : x.2.2.2.1 = p0 <;> by_cases a4 : x.2.2.2.2.1 = p0 <;> simp only [a2, a3, a4, h6, if_true, if_false, decide_true, decide_false, Bool.and_false, Bool.and_true]
    all_goals
      generalize x.2.1 = op
      unfold inB
      by_cases b1 : 1 ≤ op ∧ op ≤ 10
      · by_cases b2 : op = 5
        · subst b2
          by_cases b3 : 2 ≤ k ∧ k ≤ 3
          · have : k = 2 ∨ k = 3 := by omega
            rcases this with rfl | rfl <;> simp
          · have : ¬ k = 2 := by omega
            have : ¬ k = 3 := by omega
            simp [b3, *]
        · by_cases b3 : 8 ≤ op
          · have b4 : ¬ (op ≤ 7) := by omega
            have b5 : op ≤ 10 := by omega
            by_cases b6 : k = 1 <;> simp [b1, b2, b3, b4, b5, b6]
          · have b4 : op ≤ 7 := by omega
            by_cases b6 : 1 ≤ k ∧ k ≤ 10 <;> simp [b1, b2, b3, b4, b6]
      · have b2 : ¬ op = 5 := by omega
        have b3 : ¬ (1 ≤ op ∧ op ≤ 7) := by omega
        have b4 : ¬ (8 ≤ op ∧ op ≤ 10) := by omega
        simp [b1, b2, b3, b4]
  simp [h1, h2, h3, h4, h5, h6]
end Go.Proofs.YtiligfmembmapaaGreatDoor.Abs
