/- The laws' helpers: sizes, copies, comparing. Printed by helpers.py. -/
import Derived.Test.YtiligfmembmapaaGreatDoorZPH0
import Derived.Test.YtiligfmembmapaaGreatDoorZQAll
set_option linter.unusedVariables false
namespace Go.Proofs.YtiligfmembmapaaGreatDoor.Abs
open Go
def bValue (x : dValue) : Nat := x.2.2.1.size + 0
theorem wszValue_ok {x : dValue} {left : Int} (hs : SmT tValue x) (h0 : 0 ≤ left) (h1 : left ≤ 9223372036854775807) : wszValue x left = some ((szr left (bValue x), ()), ()) := by
  have hm : maxLen = 9223372036854775807 := rfl
  rw [wszValue_eq]
  unfold bValue
  have hk : x.2.2.1.size ≤ maxLen := hs.2.2.1
  obtain ⟨e1, e2⟩ := szr_sub (n := x.2.2.1.size) h0 h1 (by omega)
  by_cases hn : szr left (x.2.2.1.size) < 0
  · rw [ifT (e1.2 hn), szr_fail hn]
  have hle := szr_le (n := x.2.2.1.size) h0
  rw [ifF (fun h => hn (e1.1 h)), e2 hn, ← szr_add hn]
  replace h1 : szr left (x.2.2.1.size) ≤ 9223372036854775807 := by omega
  replace h0 : 0 ≤ szr left (x.2.2.1.size) := by omega
  clear e1 e2 hn hk hle
  generalize szr left (x.2.2.1.size) = left at h0 h1 ⊢
  exact sz_end left h0 h1
theorem wtoValue_ok (x : dValue) : wtoValue x = some ((x, ()), ()) := by
  rw [wtoValue_eq]
theorem weqValue_ok {a : dValue} : weqValue a a = some ((true, ()), ()) := by
  rw [weqValue_eq]
  simp
theorem wtoRef_ok (x : dRef) : wtoRef x = some ((x, ()), ()) := by
  rw [wtoRef_eq]
theorem weqRef_ok {a : dRef} : weqRef a a = some ((true, ()), ()) := by
  rw [weqRef_eq]
  simp
theorem wtoPlace_ok (x : dPlace) : wtoPlace x = some ((x, ()), ()) := by
  rw [wtoPlace_eq, wtoRef_ok]
  rfl
theorem weqPlace_ok {a : dPlace} : weqPlace a a = some ((true, ()), ()) := by
  rw [weqPlace_eq]
  simp [weqRef_ok]
theorem wszInt64S_ok {xs : List Int} {left : Int} (hs : xs.length ≤ maxLen ∧ ∀ x ∈ xs, SmT (.int .i64) x) (h0 : 0 ≤ left) (h1 : left ≤ 9223372036854775807) : wszInt64S xs left = some ((szr left (xs.length), ()), ()) := by
  have hm : maxLen = 9223372036854775807 := rfl
  have hq := hs.1
  rw [wszInt64S_eq]
  show _ = some ((szr left (xs.length + 0), ()), ())
  have hk : xs.length ≤ maxLen := hq
  obtain ⟨e1, e2⟩ := szr_sub (n := xs.length) h0 h1 (by omega)
  by_cases hn : szr left (xs.length) < 0
  · rw [ifT (e1.2 hn), szr_fail hn]
  have hle := szr_le (n := xs.length) h0
  rw [ifF (fun h => hn (e1.1 h)), e2 hn, ← szr_add hn]
  replace h1 : szr left (xs.length) ≤ 9223372036854775807 := by omega
  replace h0 : 0 ≤ szr left (xs.length) := by omega
  clear e1 e2 hn hk hle
  generalize szr left (xs.length) = left at h0 h1 ⊢
  exact sz_end left h0 h1
theorem wtoInt64S_ok {xs : List Int} (h : xs.length ≤ 1048576) : wtoInt64S xs = some ((xs, ()), ()) := by
  rw [wtoInt64S_eq, mks_ok (by omega)]
  exact toS_loop0 (fun i zs => wtoInt64S_p3_eq) (by omega) _ (by simp)
theorem weqInt64S_ok {xs : List Int} (h : xs.length ≤ 4611686018427387904) : weqInt64S xs xs = some ((true, ()), ()) := by
  have hl := h
  rw [weqInt64S_eq, if_neg (by simp)]
  exact eqS_self (B := fun y y' k => if (y != y') = true then some ((false, ()), ()) else k) (fun i => weqInt64S_p4_eq) (fun y hy k => by simp) (by omega)
def bFNode (x : dFNode) : Nat := bValue x.2.2.1 + (x.2.2.2.2.2.1.length + 0)
theorem wszFNode_ok {x : dFNode} {left : Int} (hs : SmT tFNode x) (h0 : 0 ≤ left) (h1 : left ≤ 9223372036854775807) : wszFNode x left = some ((szr left (bFNode x), ()), ()) := by
  have hm : maxLen = 9223372036854775807 := rfl
  rw [wszFNode_eq]
  unfold bFNode
  rw [wszValue_ok hs.2.2.1 h0 h1, Option.bind_some]
  dsimp only
  by_cases hn : szr left (bValue x.2.2.1) < 0
  · rw [ifT hn, szr_fail hn]
  have hle := szr_le (n := bValue x.2.2.1) h0
  rw [ifF hn, ← szr_add hn]
  replace h1 : szr left (bValue x.2.2.1) ≤ 9223372036854775807 := by omega
  replace h0 : 0 ≤ szr left (bValue x.2.2.1) := by omega
  clear hn hle
  generalize szr left (bValue x.2.2.1) = left at h0 h1 ⊢
  rw [wszInt64S_ok hs.2.2.2.2.2.1 h0 h1, Option.bind_some]
  dsimp only
  by_cases hn : szr left (x.2.2.2.2.2.1.length) < 0
  · rw [ifT hn, szr_fail hn]
  have hle := szr_le (n := x.2.2.2.2.2.1.length) h0
  rw [ifF hn, ← szr_add hn]
  replace h1 : szr left (x.2.2.2.2.2.1.length) ≤ 9223372036854775807 := by omega
  replace h0 : 0 ≤ szr left (x.2.2.2.2.2.1.length) := by omega
  clear hn hle
  generalize szr left (x.2.2.2.2.2.1.length) = left at h0 h1 ⊢
  exact sz_end left h0 h1
theorem wtoFNode_ok {x : dFNode} (h : bFNode x ≤ 1048576) : wtoFNode x = some ((x, ()), ()) := by
  unfold bFNode at h
  rw [wtoFNode_eq]
  rw [wtoValue_ok, Option.bind_some]
  rw [wtoPlace_ok, Option.bind_some]
  rw [wtoPlace_ok, Option.bind_some]
  rw [wtoInt64S_ok (by omega), Option.bind_some]
def lnFNode (x : dFNode) : Prop := x.2.2.2.2.2.1.length ≤ 4611686018427387904
theorem weqFNode_ok {a : dFNode} (h : lnFNode a) : weqFNode a a = some ((true, ()), ()) := by
  rw [weqFNode_eq]
  simp [weqValue_ok, weqPlace_ok, weqInt64S_ok h]
theorem wszFNodeS_ok {xs : List dFNode} {left : Int} (hs : xs.length ≤ maxLen ∧ ∀ x ∈ xs, SmT tFNode x) (h0 : 0 ≤ left) (h1 : left ≤ 9223372036854775807) : wszFNodeS xs left = some ((szr left (xs.length + bkL bFNode xs), ()), ()) := by
  have hm : maxLen = 9223372036854775807 := rfl
  have hq := hs.1
  rw [wszFNodeS_eq]
  have hk : xs.length ≤ maxLen := hq
  obtain ⟨e1, e2⟩ := szr_sub (n := xs.length) h0 h1 (by omega)
  by_cases hn : szr left (xs.length) < 0
  · rw [ifT (e1.2 hn), szr_fail hn]
  have hle := szr_le (n := xs.length) h0
  rw [ifF (fun h => hn (e1.1 h)), e2 hn, ← szr_add hn]
  replace h1 : szr left (xs.length) ≤ 9223372036854775807 := by omega
  replace h0 : 0 ≤ szr left (xs.length) := by omega
  clear e1 e2 hn hk hle
  generalize szr left (xs.length) = left at h0 h1 ⊢
  exact szS_loop (c := wszFNode) (fun l i => wszFNodeS_p5_eq) (fun y hy l h0 h1 => wszFNode_ok (hs.2 y hy) h0 h1) (by omega) left h0 h1
theorem wtoFNodeS_ok {xs : List dFNode} (h : (xs.length + bkL bFNode xs) ≤ 1048576) : wtoFNodeS xs = some ((xs, ()), ()) := by
  rw [wtoFNodeS_eq, mks_ok (by omega)]
  exact toS_loop (c := wtoFNode) (fun i zs => wtoFNodeS_p3_eq) (fun y hy => wtoFNode_ok (by have := bkL_mem (f := bFNode) hy; omega)) (by omega) _ (by simp)
theorem weqFNodeS_ok {xs : List dFNode} (h : (xs.length ≤ 4611686018427387904 ∧ ∀ y ∈ xs, lnFNode y)) : weqFNodeS xs xs = some ((true, ()), ()) := by
  have hl := h.1
  rw [weqFNodeS_eq, if_neg (by simp)]
  refine eqS_self (B := fun y y' k => (weqFNode y y').bind fun z => if (!z.1.1) = true then some ((false, ()), ()) else k) (fun i => weqFNodeS_p4_eq) (fun y hy k => ?_) (by omega)
  rw [weqFNode_ok (h.2 y hy)]
  rfl
def bCellValue (x : dCellValue) : Nat := bValue x.2.1 + 0
theorem wszCellValue_ok {x : dCellValue} {left : Int} (hs : SmT tCellValue x) (h0 : 0 ≤ left) (h1 : left ≤ 9223372036854775807) : wszCellValue x left = some ((szr left (bCellValue x), ()), ()) := by
  have hm : maxLen = 9223372036854775807 := rfl
  rw [wszCellValue_eq]
  unfold bCellValue
  rw [wszValue_ok hs.2.1 h0 h1, Option.bind_some]
  dsimp only
  by_cases hn : szr left (bValue x.2.1) < 0
  · rw [ifT hn, szr_fail hn]
  have hle := szr_le (n := bValue x.2.1) h0
  rw [ifF hn, ← szr_add hn]
  replace h1 : szr left (bValue x.2.1) ≤ 9223372036854775807 := by omega
  replace h0 : 0 ≤ szr left (bValue x.2.1) := by omega
  clear hn hle
  generalize szr left (bValue x.2.1) = left at h0 h1 ⊢
  exact sz_end left h0 h1
theorem wtoCellValue_ok (x : dCellValue) : wtoCellValue x = some ((x, ()), ()) := by
  rw [wtoCellValue_eq, wtoRef_ok, wtoValue_ok]
  rfl
theorem weqCellValue_ok {a : dCellValue} : weqCellValue a a = some ((true, ()), ()) := by
  rw [weqCellValue_eq]
  simp [weqRef_ok, weqValue_ok]
theorem wszCellValueS_ok {xs : List dCellValue} {left : Int} (hs : xs.length ≤ maxLen ∧ ∀ x ∈ xs, SmT tCellValue x) (h0 : 0 ≤ left) (h1 : left ≤ 9223372036854775807) : wszCellValueS xs left = some ((szr left (xs.length + bkL bCellValue xs), ()), ()) := by
  have hm : maxLen = 9223372036854775807 := rfl
  have hq := hs.1
  rw [wszCellValueS_eq]
  have hk : xs.length ≤ maxLen := hq
  obtain ⟨e1, e2⟩ := szr_sub (n := xs.length) h0 h1 (by omega)
  by_cases hn : szr left (xs.length) < 0
  · rw [ifT (e1.2 hn), szr_fail hn]
  have hle := szr_le (n := xs.length) h0
  rw [ifF (fun h => hn (e1.1 h)), e2 hn, ← szr_add hn]
  replace h1 : szr left (xs.length) ≤ 9223372036854775807 := by omega
  replace h0 : 0 ≤ szr left (xs.length) := by omega
  clear e1 e2 hn hk hle
  generalize szr left (xs.length) = left at h0 h1 ⊢
  exact szS_loop (c := wszCellValue) (fun l i => wszCellValueS_p5_eq) (fun y hy l h0 h1 => wszCellValue_ok (hs.2 y hy) h0 h1) (by omega) left h0 h1
theorem wtoCellValueS_ok {xs : List dCellValue} (h : (xs.length + bkL bCellValue xs) ≤ 1048576) : wtoCellValueS xs = some ((xs, ()), ()) := by
  rw [wtoCellValueS_eq, mks_ok (by omega)]
  exact toS_loop (c := wtoCellValue) (fun i zs => wtoCellValueS_p3_eq) (fun y hy => wtoCellValue_ok y) (by omega) _ (by simp)
theorem weqCellValueS_ok {xs : List dCellValue} (h : xs.length ≤ 4611686018427387904) : weqCellValueS xs xs = some ((true, ()), ()) := by
  have hl := h
  rw [weqCellValueS_eq, if_neg (by simp)]
  refine eqS_self (B := fun y y' k => (weqCellValue y y').bind fun z => if (!z.1.1) = true then some ((false, ()), ()) else k) (fun i => weqCellValueS_p4_eq) (fun y hy k => ?_) (by omega)
  rw [weqCellValue_ok]
  rfl
end Go.Proofs.YtiligfmembmapaaGreatDoor.Abs
