/- FnExactEval says true. -/
import Derived.Test.YtiligfmembmapaaGreatDoorZPE3
import Derived.Test.YtiligfmembmapaaGreatDoorZPHEv
set_option linter.unusedVariables false
set_option linter.unusedSimpArgs false
set_option linter.unusedSectionVars false
namespace Go.Proofs.YtiligfmembmapaaGreatDoor.Abs
open Go

theorem node_small {f : List dFNode} {n : Nat} (h : f.length + bkL bFNode f ≤ n) : (∀ x ∈ f, x.2.2.1.2.2.1.size ≤ n) ∧ (∀ x ∈ f, x.2.2.2.2.2.1.length ≤ n) := by
  have e1 : ∀ x : dFNode, x.2.2.1.2.2.1.size ≤ bFNode x := fun x => by unfold bFNode bValue; omega
  have e2 : ∀ x : dFNode, x.2.2.2.2.2.1.length ≤ bFNode x := fun x => by unfold bFNode bValue; omega
  refine ⟨fun x hx => ?_, fun x hx => ?_⟩
  · have := bkL_mem (f := bFNode) hx
    have := e1 x
    omega
  · have := bkL_mem (f := bFNode) hx
    have := e2 x
    omega
theorem cv_small {l : List dCellValue} {n : Nat} (h : l.length + bkL bCellValue l ≤ n) : ∀ c ∈ l, c.2.1.2.2.1.size ≤ n := by
  intro x hx
  have := bkL_mem (f := bCellValue) hx
  have e : x.2.1.2.2.1.size ≤ bCellValue x := by unfold bCellValue bValue; omega
  omega
theorem wFnExactEval_ok {f : List dFNode} {l : List dCellValue} (h1 : f.length ≤ maxLen ∧ ∀ x ∈ f, SmT tFNode x) (h2 : l.length ≤ maxLen ∧ ∀ x ∈ l, SmT tCellValue x) : wFnExactEval f l = some ((true, ()), ()) := by
  rw [wFnExactEval_eq, wszFNodeS_ok h1 (by decide) (by decide), Option.bind_some]
  dsimp only
  by_cases a1 : szr 1048576 (f.length + bkL bFNode f) < 0
  · rw [ifT a1]
  · obtain ⟨b1, b2⟩ := szr_ge a1
    rw [ifF a1, wszCellValueS_ok h2 (by omega) (by omega), Option.bind_some]
    dsimp only
    by_cases a2 : szr (szr 1048576 (f.length + bkL bFNode f)) (l.length + bkL bCellValue l) < 0
    · rw [ifT a2]
    · obtain ⟨b3, b4⟩ := szr_ge a2
      have c1 : f.length + bkL bFNode f ≤ 1048576 := by omega
      have c2 : l.length + bkL bCellValue l ≤ 1048576 := by omega
      obtain ⟨d1, d2⟩ := node_small c1
      have d3 := cv_small c2
      have e1 := sEval_ok (f := f) (l := l) (by omega) (fun c hc => Nat.le_trans (d3 c hc) (by decide)) (by omega) (fun x hx => Nat.le_trans (d1 x hx) (by decide)) (fun x hx => Nat.le_trans (d2 x hx) (by decide))
      have e2 := iEval_ok (f := f) (l := l) (by omega) (fun c hc => Nat.le_trans (d3 c hc) (by decide)) (by omega) (fun x hx => Nat.le_trans (d1 x hx) (by decide)) (fun x hx => Nat.le_trans (d2 x hx) (by decide))
      rw [ifF a2]
      simp [wtoFNodeS_ok c1, wtoCellValueS_ok c2, e1, e2, weqValue_ok, weqFNodeS_ok (xs := f) ⟨by omega, fun y hy => Nat.le_trans (d2 y hy) (by decide)⟩, weqCellValueS_ok (xs := l) (by omega)]
end Go.Proofs.YtiligfmembmapaaGreatDoor.Abs
