/- FnExactPatched says true. -/
import Derived.Test.YtbkcnfbjigjgdaaGreatDoorZP4
import Derived.Test.YtbkcnfbjigjgdaaGreatDoorZPT34
import Derived.Test.YtbkcnfbjigjgdaaGreatDoorZPHC
set_option linter.unusedVariables false
set_option linter.unusedSimpArgs false
set_option linter.unusedSectionVars false
namespace Go.Proofs.YtbkcnfbjigjgdaaGreatDoor.Abs
open Go

theorem cell_small {s : List dCell} {n : Nat} (h : s.length + bkL bCell s ≤ n) : ∀ c ∈ s, c.2.1.size ≤ n := by
  intro x hx
  have := bkL_mem (f := bCell) hx
  have e : x.2.1.size ≤ bCell x := by unfold bCell; omega
  omega
theorem change_small {s : List dChange} {n : Nat} (h : s.length + bkL bChange s ≤ n) : ∀ c ∈ s, c.2.2.1.size ≤ n := by
  intro x hx
  have := bkL_mem (f := bChange) hx
  have e : x.2.2.1.size ≤ bChange x := by unfold bChange; omega
  omega
theorem wFnExactPatched_ok {s : List dCell} {l : List dChange} (h1 : s.length ≤ maxLen ∧ ∀ x ∈ s, SmT tCell x) (h2 : l.length ≤ maxLen ∧ ∀ x ∈ l, SmT tChange x) : wFnExactPatched s l = some ((true, ()), ()) := by
  rw [wFnExactPatched_eq, wszCellS_ok h1 (by decide) (by decide), Option.bind_some]
  dsimp only
  by_cases a1 : szr 1048576 (s.length + bkL bCell s) < 0
  · rw [ifT a1]
  · obtain ⟨b1, b2⟩ := szr_ge a1
    rw [ifF a1, wszChangeS_ok h2 (by omega) (by omega), Option.bind_some]
    dsimp only
    by_cases a2 : szr (szr 1048576 (s.length + bkL bCell s)) (l.length + bkL bChange l) < 0
    · rw [ifT a2]
    · obtain ⟨b3, b4⟩ := szr_ge a2
      have c1 : s.length + bkL bCell s ≤ 1048576 := by omega
      have c2 : l.length + bkL bChange l ≤ 1048576 := by omega
      have d1 := cell_small c1
      have d2 := change_small c2
      have f1 := iPatched_ok (s := s) (l := l) (fun c hc => Nat.le_trans (d1 c hc) (by decide)) (by omega) (fun c hc => Nat.le_trans (d2 c hc) (by decide))
      have f2 := sPatched_ok (s := s) (l := l) (fun c hc => Nat.le_trans (d1 c hc) (by decide)) (by omega) (fun c hc => Nat.le_trans (d2 c hc) (by decide))
      have hp := (ptR_size s l).1
      obtain ⟨m1, _, g1, _⟩ := markCell_ok (s := s) (k := 1) (by decide) (by omega) (by omega)
      obtain ⟨m2, _, g2⟩ := markChange_ok (s := l) (k := 1 + 3 * s.length) (by omega) (by omega) (by omega)
      obtain ⟨m3, _, g3, g4⟩ := markCell_ok (s := (ptR s l).1) (k := 1) (by decide) (by omega) (by omega)
      have n1 : decide (1 + 3 * (s.length : Int) + 4 * (l.length : Int) < 0) = false := decide_eq_false (by omega)
      have n2 : decide (1 + 3 * ((ptR s l).1.length : Int) < 0) = false := decide_eq_false (by omega)
      have p1 := weqCellS_ok (xs := s) (by omega)
      have p2 := weqChangeS_ok (xs := l) (by omega)
      have p3 := weqCellS_ok (xs := (ptR s l).1) (by omega)
      rw [ifF a2]
      simp only [Option.bind_some, wtoCellS_ok c1, wtoChangeS_ok c2, f1, f2, p1, p2, p3, g1, g2, g3, g4, n1, n2, Bool.not_true, Bool.false_eq_true, if_false, beq_self_eq_true, bne_self_eq_false]
end Go.Proofs.YtbkcnfbjigjgdaaGreatDoor.Abs
