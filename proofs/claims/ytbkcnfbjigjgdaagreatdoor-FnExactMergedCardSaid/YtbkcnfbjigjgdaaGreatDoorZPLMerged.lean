/- FnExactMerged says true. -/
import Derived.Test.YtbkcnfbjigjgdaaGreatDoorZP5
import Derived.Test.YtbkcnfbjigjgdaaGreatDoorZPT34
import Derived.Test.YtbkcnfbjigjgdaaGreatDoorZPHC
set_option linter.unusedVariables false
set_option linter.unusedSimpArgs false
set_option linter.unusedSectionVars false
namespace Go.Proofs.YtbkcnfbjigjgdaaGreatDoor.Abs
open Go

theorem cell_small' {s : List dCell} {n : Nat} (h : s.length + bkL bCell s ≤ n) : ∀ c ∈ s, c.2.1.size ≤ n := by
  intro x hx
  have := bkL_mem (f := bCell) hx
  have e : x.2.1.size ≤ bCell x := by unfold bCell; omega
  omega
theorem wFnExactMerged_ok {o x y : List dCell} (h1 : o.length ≤ maxLen ∧ ∀ c ∈ o, SmT tCell c) (h2 : x.length ≤ maxLen ∧ ∀ c ∈ x, SmT tCell c) (h3 : y.length ≤ maxLen ∧ ∀ c ∈ y, SmT tCell c) : wFnExactMerged o x y = some ((true, ()), ()) := by
  rw [wFnExactMerged_eq, wszCellS_ok h1 (by decide) (by decide), Option.bind_some]
  dsimp only
  by_cases a1 : szr 1048576 (o.length + bkL bCell o) < 0
  · rw [ifT a1]
  · obtain ⟨b1, b2⟩ := szr_ge a1
    rw [ifF a1, wszCellS_ok h2 (by omega) (by omega), Option.bind_some]
    dsimp only
    by_cases a2 : szr (szr 1048576 (o.length + bkL bCell o)) (x.length + bkL bCell x) < 0
    · rw [ifT a2]
    · obtain ⟨b3, b4⟩ := szr_ge a2
      rw [ifF a2, wszCellS_ok h3 (by omega) (by omega), Option.bind_some]
      dsimp only
      by_cases a3 : szr (szr (szr 1048576 (o.length + bkL bCell o)) (x.length + bkL bCell x)) (y.length + bkL bCell y) < 0
      · rw [ifT a3]
      · obtain ⟨b5, b6⟩ := szr_ge a3
        have c1 : o.length + bkL bCell o ≤ 1048576 := by omega
        have c2 : x.length + bkL bCell x ≤ 1048576 := by omega
        have c3 : y.length + bkL bCell y ≤ 1048576 := by omega
        have c4 : o.length + x.length + y.length ≤ 1048576 := by omega
        have d1 := cell_small' c1
        have d2 := cell_small' c2
        have d3 := cell_small' c3
        by_cases hok : o.length ≤ 2000000 ∧ x.length ≤ 2000000 ∧ y.length ≤ 2000000
        · obtain ⟨l1, l2, l3⟩ := hok
          have f1 := iMerged_ok (o := o) (x := x) (y := y) l1 l2 l3 (fun c hc => Nat.le_trans (d1 c hc) (by decide)) (fun c hc => Nat.le_trans (d2 c hc) (by decide)) (fun c hc => Nat.le_trans (d3 c hc) (by decide))
          have f2 := sMerged_ok (o := o) (x := x) (y := y) l1 l2 l3 (fun c hc => Nat.le_trans (d1 c hc) (by decide)) (fun c hc => Nat.le_trans (d2 c hc) (by decide)) (fun c hc => Nat.le_trans (d3 c hc) (by decide))
          have hp := mrgR_size o x y
          have hq := mrgR_refs o x y
          obtain ⟨m1, _, g1, _⟩ := markCell_ok (s := o) (k := 1) (by decide) (by omega) (by omega)
          obtain ⟨m2, _, g2, _⟩ := markCell_ok (s := x) (k := 1 + 3 * o.length) (by omega) (by omega) (by omega)
          obtain ⟨m3, _, g3, _⟩ := markCell_ok (s := y) (k := 1 + 3 * o.length + 3 * x.length) (by omega) (by omega) (by omega)
          obtain ⟨m4, _, g4, g5⟩ := markCell_ok (s := (mrgR o x y).1) (k := 1) (by decide) (by omega) (by omega)
          obtain ⟨m5, _, g6, g7⟩ := markRef_ok (s := (mrgR o x y).2.1) (k := 1 + 3 * (mrgR o x y).1.length) (by omega) (by omega) (by omega)
          have n1 : decide (1 + 3 * (o.length : Int) + 3 * (x.length : Int) + 3 * (y.length : Int) < 0) = false := decide_eq_false (by omega)
          have n2 : decide (1 + 3 * ((mrgR o x y).1.length : Int) < 0) = false := decide_eq_false (by omega)
          have n3 : decide (1 + 3 * ((mrgR o x y).1.length : Int) + 2 * ((mrgR o x y).2.1.length : Int) < 0) = false := decide_eq_false (by omega)
          have p1 := weqCellS_ok (xs := o) (by omega)
          have p2 := weqCellS_ok (xs := x) (by omega)
          have p3 := weqCellS_ok (xs := y) (by omega)
          have p4 := weqCellS_ok (xs := (mrgR o x y).1) (by omega)
          have p5 := weqRefS_ok (xs := (mrgR o x y).2.1) (by omega)
          rw [ifF a3]
          simp only [Option.bind_some, wtoCellS_ok c1, wtoCellS_ok c2, wtoCellS_ok c3, f1, f2, p1, p2, p3, p4, p5, g1, g2, g3, g4, g5, g6, g7, n1, n2, n3, Bool.not_true, Bool.false_eq_true, if_false, beq_self_eq_true, bne_self_eq_false]
        · exact absurd ⟨by omega, by omega, by omega⟩ hok
end Go.Proofs.YtbkcnfbjigjgdaaGreatDoor.Abs
