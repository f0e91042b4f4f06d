/- The laws' helpers: sizes, copies, comparing. Printed by helpers.py. -/
import Derived.Test.YtbkcnfbjigjgdaaGreatDoorZP1
import Derived.Test.YtbkcnfbjigjgdaaGreatDoorZQ1
set_option linter.unusedVariables false
set_option linter.unusedSimpArgs false
set_option linter.unusedSectionVars false
namespace Go.Proofs.YtbkcnfbjigjgdaaGreatDoor.Abs
open Go
theorem wtoRef_ok (x : dRef) : wtoRef x = some ((x, ()), ()) := by
  rw [wtoRef_eq]
theorem weqRef_ok {a : dRef} : weqRef a a = some ((true, ()), ()) := by
  rw [weqRef_eq]
  simp
def bCell (x : dCell) : Nat := x.2.1.size + 0
theorem wszCell_ok {x : dCell} {left : Int} (hs : SmT tCell x) (h0 : 0 ≤ left) (h1 : left ≤ 9223372036854775807) : wszCell x left = some ((szr left (bCell x), ()), ()) := by
  have hm : maxLen = 9223372036854775807 := rfl
  rw [wszCell_eq]
  unfold bCell
  have hk : x.2.1.size ≤ maxLen := hs.2.1
  obtain ⟨e1, e2⟩ := szr_sub (n := x.2.1.size) h0 h1 (by omega)
  by_cases hn : szr left (x.2.1.size) < 0
  · rw [ifT (e1.2 hn), szr_fail hn]
  have hle := szr_le (n := x.2.1.size) h0
  rw [ifF (fun h => hn (e1.1 h)), e2 hn, ← szr_add hn]
  replace h1 : szr left (x.2.1.size) ≤ 9223372036854775807 := by omega
  replace h0 : 0 ≤ szr left (x.2.1.size) := by omega
  clear e1 e2 hn hk hle
  generalize szr left (x.2.1.size) = left at h0 h1 ⊢
  exact sz_end left h0 h1
theorem wtoCell_ok (x : dCell) : wtoCell x = some ((x, ()), ()) := by
  rw [wtoCell_eq, wtoRef_ok]
  rfl
theorem weqCell_ok {a : dCell} : weqCell a a = some ((true, ()), ()) := by
  rw [weqCell_eq]
  simp [weqRef_ok]
theorem wszCellS_ok {xs : List dCell} {left : Int} (hs : xs.length ≤ maxLen ∧ ∀ x ∈ xs, SmT tCell x) (h0 : 0 ≤ left) (h1 : left ≤ 9223372036854775807) : wszCellS xs left = some ((szr left (xs.length + bkL bCell xs), ()), ()) := by
  have hm : maxLen = 9223372036854775807 := rfl
  have hq := hs.1
  rw [wszCellS_eq]
  have hk : xs.length ≤ maxLen := hq
  obtain ⟨e1, e2⟩ := szr_sub (n := xs.length) h0 h1 (by omega)
  by_cases hn : szr left (xs.length) < 0
  · rw [ifT (e1.2 hn), szr_fail hn]
  have hle := szr_le (n := xs.length) h0
  rw [ifF (fun h => hn (e1.1 h)), e2 hn, ← szr_add hn]
  replace h1 : szr left (xs.length) ≤ 9223372036854775807 := by omega
  replace h0 : 0 ≤ szr left (xs.length) := by omega
  clear e1 e2 hn hk hle
  generalize szr left (xs.length) = left at h0 h1 ⊢
  exact szS_loop (c := wszCell) (fun l i => wszCellS_p5_eq) (fun y hy l h0 h1 => wszCell_ok (hs.2 y hy) h0 h1) (by omega) left h0 h1
theorem wtoCellS_ok {xs : List dCell} (h : (xs.length + bkL bCell xs) ≤ 1048576) : wtoCellS xs = some ((xs, ()), ()) := by
  rw [wtoCellS_eq, mks_ok (by omega)]
  exact toS_loop (c := wtoCell) (fun i zs => wtoCellS_p3_eq) (fun y hy => wtoCell_ok y) (by omega) _ (by simp)
theorem weqCellS_ok {xs : List dCell} (h : xs.length ≤ 4611686018427387904) : weqCellS xs xs = some ((true, ()), ()) := by
  have hl := h
  rw [weqCellS_eq, if_neg (by simp)]
  refine eqS_self (B := fun y y' k => (weqCell y y').bind fun z => if (!z.1.1) = true then some ((false, ()), ()) else k) (fun i => weqCellS_p4_eq) (fun y hy k => ?_) (by omega)
  rw [weqCell_ok]
  rfl
theorem weqRefS_ok {xs : List dRef} (h : xs.length ≤ 4611686018427387904) : weqRefS xs xs = some ((true, ()), ()) := by
  have hl := h
  rw [weqRefS_eq, if_neg (by simp)]
  refine eqS_self (B := fun y y' k => (weqRef y y').bind fun z => if (!z.1.1) = true then some ((false, ()), ()) else k) (fun i => weqRefS_p4_eq) (fun y hy k => ?_) (by omega)
  rw [weqRef_ok]
  rfl
end Go.Proofs.YtbkcnfbjigjgdaaGreatDoor.Abs
