/- What the disks' small functions say. -/
import Derived.Test.YtcfnhfbaakflgaaAbsPl
import Derived.Test.YtcfnhfbaakflgaaAbsQDisk
set_option linter.unusedVariables false
namespace Go.Proofs.Ytcfnhfbaakflgaa.Abs
open Go

/-! ### Sizes -/
def szF (x : dFile) (left : Int) : Int := if left - (x.1.size : Int) < 0 then -1 else if left - (x.1.size : Int) - (x.2.1.size : Int) < 0 then -1 else left - (x.1.size : Int) - (x.2.1.size : Int)
theorem szF_le {x : dFile} {left : Int} (h : 0 ≤ left) : szF x left ≤ left ∧ -1 ≤ szF x left := by
  unfold szF
  split
  · omega
  · split <;> omega
theorem s109 {x : dFile} {left : Int} (h0 : 0 ≤ left) (h1 : left ≤ 9223372036854775807) (ha : (x.1.size : Int) ≤ 9223372036854775807) (hb : (x.2.1.size : Int) ≤ 9223372036854775807) : Ev (fun k => c109 k x left) ((szF x left, ()), ()) := by
  refine Ev.eqn 19 (fun k => c109_eq k x left) ?_
  unfold szF
  rw [wr (n := left - (x.1.size : Int)) (by omega) (by omega)]
  simp only [decide_eq_true_eq]
  split
  · exact Ev.now
  · rw [wr (by omega) (by omega)]
    split
    · exact Ev.now
    · exact Ev.now
def szFs : List dFile → Int → Int
  | [], left => left
  | y :: l, left => if szF y left < 0 then -1 else szFs l (szF y left)
def Sm (xs : List dFile) : Prop := ∀ y ∈ xs, (y.1.size : Int) ≤ 9223372036854775807 ∧ (y.2.1.size : Int) ≤ 9223372036854775807
theorem s75_loop {xs : List dFile} (hs : Sm xs) (hl : (xs.length : Int) ≤ 9223372036854775807) : ∀ (ys pre : List dFile) (left : Int), xs = pre ++ ys → 0 ≤ left → left ≤ 9223372036854775807 → Ev (fun k => p75_5 k xs left (pre.length : Int)) ((szFs ys left, ()), ())
  | [], pre, left, he, h0, h1 => by
    refine Ev.eqn 17 (fun k => p75_5_eq k xs left _) ?_
    simp only [he, List.append_nil, Int.lt_irrefl, decide_false, Bool.false_eq_true, if_false, szFs]
    exact Ev.now
  | y :: ys, pre, left, he, h0, h1 => by
    refine Ev.eqn 17 (fun k => p75_5_eq k xs left _) ?_
    have hlt : ((pre.length : Nat) : Int) < (xs.length : Int) := by rw [he]; exact lt_len
    have hg : List.getD xs (Int.toNat (pre.length : Int)) tFile.dflt = y := by rw [he]; exact getD_at
    have hy := hs y (by rw [he]; simp)
    simp only [hlt, nn, decide_true, if_true, hg]
    refine Ev.bind (Ev.later (s109 h0 h1 hy.1 hy.2) _) ?_
    have hb := szF_le (x := y) h0
    simp only [decide_eq_true_eq, szFs]
    by_cases hn : szF y left < 0
    · simp only [hn, if_true]
      exact Ev.now
    · simp only [hn, if_false]
      rw [wr (by omega) (by omega), len_snoc]
      exact Ev.later (s75_loop hs hl ys (pre ++ [y]) (szF y left) (by rw [he]; simp) (by omega) (by omega)) _
theorem s75 {xs : List dFile} {left : Int} (hs : Sm xs) (hl : (xs.length : Int) ≤ 9223372036854775807) (h0 : 0 ≤ left) (h1 : left ≤ 9223372036854775807) : Ev (fun k => c75 k xs left) ((if left - (xs.length : Int) < 0 then -1 else szFs xs (left - (xs.length : Int)), ()), ()) := by
  refine Ev.eqn 17 (fun k => c75_eq k xs left) ?_
  rw [wr (n := left - (xs.length : Int)) (by omega) (by omega)]
  simp only [decide_eq_true_eq]
  by_cases hn : left - (xs.length : Int) < 0
  · simp only [hn, if_true]
    exact Ev.now
  · simp only [hn, if_false]
    exact Ev.later (s75_loop hs hl xs [] (left - xs.length) rfl (by omega) (by omega)) _
/-! ### Copies -/
theorem s110 (x : dFile) : Ev (fun k => c110 k x) ((x, ()), ()) := Ev.eqn 11 (fun k => c110_eq k x) Ev.now
theorem s77_loop {xs : List dFile} (hl : (xs.length : Int) ≤ 9223372036854775807) : ∀ (ys pre zs : List dFile), xs = pre ++ ys → zs.length = ys.length → Ev (fun k => p77_3 k xs (pre.length : Int) (pre ++ zs)) ((xs, ()), ())
  | [], pre, zs, he, hz => by
    refine Ev.eqn 12 (fun k => p77_3_eq k xs (pre.length : Int) (pre ++ zs)) ?_
    have : zs = [] := List.eq_nil_of_length_eq_zero hz
    subst this
    simp only [he, List.append_nil, Int.lt_irrefl, decide_false, Bool.false_eq_true, if_false]
    exact Ev.now
  | y :: ys, pre, [], he, hz => by cases hz
  | y :: ys, pre, z :: zs, he, hz => by
    refine Ev.eqn 12 (fun k => p77_3_eq k xs (pre.length : Int) (pre ++ z :: zs)) ?_
    have hlt : ((pre.length : Nat) : Int) < (xs.length : Int) := by rw [he]; exact lt_len
    have hlt2 : ((pre.length : Nat) : Int) < ((pre ++ z :: zs).length : Int) := lt_len
    have hg : List.getD xs (Int.toNat (pre.length : Int)) tFile.dflt = y := by rw [he]; exact getD_at
    simp only [hlt, hlt2, nn, decide_true, if_true, hg, set_at]
    refine Ev.bind (Ev.later (s110 y) _) ?_
    have e : pre ++ y :: zs = (pre ++ [y]) ++ zs := by simp
    rw [wr (by omega) (by omega), len_snoc, e]
    exact Ev.later (s77_loop hl ys (pre ++ [y]) zs (by rw [he]; simp) (by simpa using hz)) 1
theorem s77 {xs : List dFile} (hl : xs.length * 32 ≤ 140737488355328) : Ev (fun k => c77 k xs) ((xs, ()), ()) := by
  refine Ev.eqn 12 (fun k => c77_eq k xs) ?_
  simp only [nn, Int.toNat_natCast, hl, if_true]
  have hl2 : (xs.length : Int) ≤ 9223372036854775807 := by omega
  exact Ev.later (s77_loop hl2 xs [] (List.replicate xs.length tFile.dflt) rfl (by simp)) 1
/-! ### The same of operations -/
def szO (x : dDOp) (left : Int) : Int := if left - (x.2.1.size : Int) < 0 then -1 else if left - (x.2.1.size : Int) - (x.2.2.1.size : Int) < 0 then -1 else if left - (x.2.1.size : Int) - (x.2.2.1.size : Int) - (x.2.2.2.1.size : Int) < 0 then -1 else left - (x.2.1.size : Int) - (x.2.2.1.size : Int) - (x.2.2.2.1.size : Int)
theorem szO_le {x : dDOp} {left : Int} (h : 0 ≤ left) : szO x left ≤ left ∧ -1 ≤ szO x left := by
  unfold szO
  split
  · omega
  · split
    · omega
    · split <;> omega
theorem s43 {x : dDOp} {left : Int} (h0 : 0 ≤ left) (h1 : left ≤ 9223372036854775807) (ha : (x.2.1.size : Int) ≤ 9223372036854775807) (hb : (x.2.2.1.size : Int) ≤ 9223372036854775807) (hc : (x.2.2.2.1.size : Int) ≤ 9223372036854775807) : Ev (fun k => c43 k x left) ((szO x left, ()), ()) := by
  refine Ev.eqn 26 (fun k => c43_eq k x left) ?_
  unfold szO
  rw [wr (n := left - (x.2.1.size : Int)) (by omega) (by omega)]
  simp only [decide_eq_true_eq]
  split
  · exact Ev.now
  · rw [wr (n := left - (x.2.1.size : Int) - (x.2.2.1.size : Int)) (by omega) (by omega)]
    split
    · exact Ev.now
    · rw [wr (n := left - (x.2.1.size : Int) - (x.2.2.1.size : Int) - (x.2.2.2.1.size : Int)) (by omega) (by omega)]
      split
      · exact Ev.now
      · exact Ev.now
def szOs : List dDOp → Int → Int
  | [], left => left
  | y :: l, left => if szO y left < 0 then -1 else szOs l (szO y left)
def SmO (xs : List dDOp) : Prop := ∀ y ∈ xs, (y.2.1.size : Int) ≤ 9223372036854775807 ∧ (y.2.2.1.size : Int) ≤ 9223372036854775807 ∧ (y.2.2.2.1.size : Int) ≤ 9223372036854775807
theorem s76_loop {xs : List dDOp} (hs : SmO xs) (hl : (xs.length : Int) ≤ 9223372036854775807) : ∀ (ys pre : List dDOp) (left : Int), xs = pre ++ ys → 0 ≤ left → left ≤ 9223372036854775807 → Ev (fun k => p76_5 k xs left (pre.length : Int)) ((szOs ys left, ()), ())
  | [], pre, left, he, h0, h1 => by
    refine Ev.eqn 17 (fun k => p76_5_eq k xs left _) ?_
    simp only [he, List.append_nil, Int.lt_irrefl, decide_false, Bool.false_eq_true, if_false, szOs]
    exact Ev.now
  | y :: ys, pre, left, he, h0, h1 => by
    refine Ev.eqn 17 (fun k => p76_5_eq k xs left _) ?_
    have hlt : ((pre.length : Nat) : Int) < (xs.length : Int) := by rw [he]; exact lt_len
    have hg : List.getD xs (Int.toNat (pre.length : Int)) tDOp.dflt = y := by rw [he]; exact getD_at
    have hy := hs y (by rw [he]; simp)
    simp only [hlt, nn, decide_true, if_true, hg]
    refine Ev.bind (Ev.later (s43 h0 h1 hy.1 hy.2.1 hy.2.2) _) ?_
    have hb := szO_le (x := y) h0
    simp only [decide_eq_true_eq, szOs]
    by_cases hn : szO y left < 0
    · simp only [hn, if_true]
      exact Ev.now
    · simp only [hn, if_false]
      rw [wr (by omega) (by omega), len_snoc]
      exact Ev.later (s76_loop hs hl ys (pre ++ [y]) (szO y left) (by rw [he]; simp) (by omega) (by omega)) _
theorem s76 {xs : List dDOp} {left : Int} (hs : SmO xs) (hl : (xs.length : Int) ≤ 9223372036854775807) (h0 : 0 ≤ left) (h1 : left ≤ 9223372036854775807) : Ev (fun k => c76 k xs left) ((if left - (xs.length : Int) < 0 then -1 else szOs xs (left - (xs.length : Int)), ()), ()) := by
  refine Ev.eqn 17 (fun k => c76_eq k xs left) ?_
  rw [wr (n := left - (xs.length : Int)) (by omega) (by omega)]
  simp only [decide_eq_true_eq]
  by_cases hn : left - (xs.length : Int) < 0
  · simp only [hn, if_true]
    exact Ev.now
  · simp only [hn, if_false]
    exact Ev.later (s76_loop hs hl xs [] (left - xs.length) rfl (by omega) (by omega)) _
theorem s44 (x : dDOp) : Ev (fun k => c44 k x) ((x, ()), ()) := Ev.eqn 15 (fun k => c44_eq k x) Ev.now
theorem s78_loop {xs : List dDOp} (hl : (xs.length : Int) ≤ 9223372036854775807) : ∀ (ys pre zs : List dDOp), xs = pre ++ ys → zs.length = ys.length → Ev (fun k => p78_3 k xs (pre.length : Int) (pre ++ zs)) ((xs, ()), ())
  | [], pre, zs, he, hz => by
    refine Ev.eqn 12 (fun k => p78_3_eq k xs (pre.length : Int) (pre ++ zs)) ?_
    have : zs = [] := List.eq_nil_of_length_eq_zero hz
    subst this
    simp only [he, List.append_nil, Int.lt_irrefl, decide_false, Bool.false_eq_true, if_false]
    exact Ev.now
  | y :: ys, pre, [], he, hz => by cases hz
  | y :: ys, pre, z :: zs, he, hz => by
    refine Ev.eqn 12 (fun k => p78_3_eq k xs (pre.length : Int) (pre ++ z :: zs)) ?_
    have hlt : ((pre.length : Nat) : Int) < (xs.length : Int) := by rw [he]; exact lt_len
    have hlt2 : ((pre.length : Nat) : Int) < ((pre ++ z :: zs).length : Int) := lt_len
    have hg : List.getD xs (Int.toNat (pre.length : Int)) tDOp.dflt = y := by rw [he]; exact getD_at
    simp only [hlt, hlt2, nn, decide_true, if_true, hg, set_at]
    refine Ev.bind (Ev.later (s44 y) _) ?_
    have e : pre ++ y :: zs = (pre ++ [y]) ++ zs := by simp
    rw [wr (by omega) (by omega), len_snoc, e]
    exact Ev.later (s78_loop hl ys (pre ++ [y]) zs (by rw [he]; simp) (by simpa using hz)) 1
theorem s78 {xs : List dDOp} (hl : xs.length * 56 ≤ 140737488355328) : Ev (fun k => c78 k xs) ((xs, ()), ()) := by
  refine Ev.eqn 12 (fun k => c78_eq k xs) ?_
  simp only [nn, Int.toNat_natCast, hl, if_true]
  have hl2 : (xs.length : Int) ≤ 9223372036854775807 := by omega
  exact Ev.later (s78_loop hl2 xs [] (List.replicate xs.length tDOp.dflt) rfl (by simp)) 1
/-- All of a disk. -/
def szD (d : dDisk) (left : Int) : Int :=
  let a := if left - (d.1.length : Int) < 0 then -1 else szFs d.1 (left - (d.1.length : Int))
  if a < 0 then -1 else
  let b := if a - (d.2.1.length : Int) < 0 then -1 else szFs d.2.1 (a - (d.2.1.length : Int))
  if b < 0 then -1 else
  let c := if b - (d.2.2.1.length : Int) < 0 then -1 else szOs d.2.2.1 (b - (d.2.2.1.length : Int))
  if c < 0 then -1 else c
theorem szFs_le : ∀ {l : List dFile} {left : Int}, 0 ≤ left → szFs l left ≤ left ∧ -1 ≤ szFs l left
  | [], left, h => by simp only [szFs]; omega
  | y :: l, left, h => by
    have h1 := szF_le (x := y) h
    simp only [szFs]
    split
    · omega
    · have := szFs_le (l := l) (left := szF y left) (by omega)
      omega
theorem szOs_le : ∀ {l : List dDOp} {left : Int}, 0 ≤ left → szOs l left ≤ left ∧ -1 ≤ szOs l left
  | [], left, h => by simp only [szOs]; omega
  | y :: l, left, h => by
    have h1 := szO_le (x := y) h
    simp only [szOs]
    split
    · omega
    · have := szOs_le (l := l) (left := szO y left) (by omega)
      omega
/-- Texts that a machine can hold. -/
def SmD (d : dDisk) : Prop := Sm d.1 ∧ Sm d.2.1 ∧ SmO d.2.2.1 ∧ (d.1.length : Int) ≤ 9223372036854775807 ∧ (d.2.1.length : Int) ≤ 9223372036854775807 ∧ (d.2.2.1.length : Int) ≤ 9223372036854775807
theorem s32 {d : dDisk} {left : Int} (hd : SmD d) (h0 : 0 ≤ left) (h1 : left ≤ 9223372036854775807) : Ev (fun k => c32 k d left) ((szD d left, ()), ()) := by
  obtain ⟨ha, hb, hc, la, lb, lc⟩ := hd
  refine Ev.eqn 26 (fun k => c32_eq k d left) ?_
  refine Ev.bind (Ev.later (s75 ha la h0 h1) _) ?_
  unfold szD
  generalize hA : (if left - (d.1.length : Int) < 0 then -1 else szFs d.1 (left - (d.1.length : Int))) = A
  have hA2 : A ≤ left := by
    rw [← hA]
    split
    · omega
    · have := szFs_le (l := d.1) (left := left - d.1.length) (by omega)
      omega
  simp only [decide_eq_true_eq]
  by_cases hn : A < 0
  · simp only [hn, if_true]
    exact Ev.now
  simp only [hn, if_false]
  refine Ev.bind (Ev.later (s75 hb lb (by omega) (by omega)) _) ?_
  generalize hB : (if A - (d.2.1.length : Int) < 0 then -1 else szFs d.2.1 (A - (d.2.1.length : Int))) = B
  have hB2 : B ≤ A := by
    rw [← hB]
    split
    · omega
    · have := szFs_le (l := d.2.1) (left := A - d.2.1.length) (by omega)
      omega
  simp only
  by_cases hn : B < 0
  · simp only [hn, if_true]
    exact Ev.now
  simp only [hn, if_false]
  refine Ev.bind (Ev.later (s76 hc lc (by omega) (by omega)) _) ?_
  generalize (if B - (d.2.2.1.length : Int) < 0 then -1 else szOs d.2.2.1 (B - (d.2.2.1.length : Int))) = C
  simp only
  by_cases hn : C < 0
  · simp only [hn, if_true]
    exact Ev.now
  · simp only [hn, if_false]
    exact Ev.now
theorem s33 {d : dDisk} (ha : d.1.length * 32 ≤ 140737488355328) (hb : d.2.1.length * 32 ≤ 140737488355328) (hc : d.2.2.1.length * 56 ≤ 140737488355328) : Ev (fun k => c33 k d) (((d.1, d.2.1, d.2.2.1, ()), ()), ()) := by
  refine Ev.eqn 13 (fun k => c33_eq k d) ?_
  refine Ev.bind (Ev.later (s77 ha) _) ?_
  refine Ev.bind (Ev.later (s77 hb) _) ?_
  refine Ev.bind (Ev.later (s78 hc) _) ?_
  exact Ev.now
end Go.Proofs.Ytcfnhfbaakflgaa.Abs
