/- What the program's functions of disks say. -/
import Derived.Test.YtcfnhfbaakflgaaAbsPDisk3
set_option linter.unusedVariables false
set_option linter.unusedSimpArgs false
namespace Go.Proofs.Ytcfnhfbaakflgaa.Abs
open Go

theorem s98 (x : ByteArray) : Ev (fun k => c98 k x) ((nameOk x, ()), ()) := by
  refine Ev.eqn 5 (fun k => c98_eq k x) ?_
  unfold nameOk
  by_cases h : (x.size : Int) ≥ 1
  · simp only [h, decide_true, if_true, Bool.true_and]
    exact Ev.now
  · simp only [h, decide_false, Bool.false_eq_true, if_false, Bool.false_and]
    exact Ev.now
def fewOk (xs : List dFile) : Bool := decide ((xs.length : Int) ≤ 60) && decide ((tot xs : Int) ≤ 200000)
theorem s66_loop {xs : List dFile} (hl : xs.length ≤ 1099511627776) (ht : (tot xs : Int) ≤ 4611686018427387904) : ∀ (ys pre : List dFile), xs = pre ++ ys → Ev (fun k => p66_3 k xs (tot pre : Int) xs (xs.length : Int) (pre.length : Int)) ((fewOk xs, ()), ())
  | [], pre, he => by
    refine Ev.eqn 14 (fun k => p66_3_eq k xs (tot pre : Int) xs (xs.length : Int) (pre.length : Int)) ?_
    have he : xs = pre := by rw [he]; simp
    subst he
    unfold fewOk
    simp only [Int.lt_irrefl, decide_false, Bool.false_eq_true, if_false]
    by_cases h : (xs.length : Int) ≤ 60
    · simp only [h, decide_true, if_true, Bool.true_and]
      exact Ev.now
    · simp only [h, decide_false, Bool.false_eq_true, if_false, Bool.false_and]
      exact Ev.now
  | y :: ys, pre, he => by
    refine Ev.eqn 14 (fun k => p66_3_eq k xs (tot pre : Int) xs (xs.length : Int) (pre.length : Int)) ?_
    have hlt : ((pre.length : Nat) : Int) < (xs.length : Int) := by rw [he]; exact lt_len
    have hg : List.getD xs (Int.toNat (pre.length : Int)) tFile.dflt = y := by rw [he]; exact getD_at
    have ht2 : (tot pre : Int) + (y.2.1.size : Int) ≤ tot xs := by
      rw [he, tot_append]
      simp only [tot]
      omega
    have e : (tot pre : Int) + (y.2.1.size : Int) = ((tot (pre ++ [y]) : Nat) : Int) := by rw [tot_append]; simp [tot]
    simp only [hlt, nn, decide_true, if_true, hg]
    rw [wr (n := (tot pre : Int) + (y.2.1.size : Int)) (by omega) (by omega), wr1 (y := y) (by omega) hl, e]
    exact Ev.later (s66_loop hl ht ys (pre ++ [y]) (by rw [he]; simp)) 1
theorem s66 {xs : List dFile} (hl : xs.length ≤ 1099511627776) (ht : (tot xs : Int) ≤ 4611686018427387904) : Ev (fun k => c66 k xs) ((fewOk xs, ()), ()) :=
  Ev.eqn 11 (fun k => c66_eq k xs) (Ev.later (s66_loop hl ht xs [] rfl) 1)
theorem s63_loop {xs : List dFile} (hl : xs.length ≤ 1099511627776) (ht : (tot xs : Int) ≤ 4611686018427387904) : ∀ (ys pre : List dFile), xs = pre ++ ys → Ev (fun k => p63_2 k xs xs (xs.length : Int) (pre.length : Int)) ((chk (prev pre) ys && fewOk xs, ()), ())
  | [], pre, he => by
    refine Ev.eqn 17 (fun k => p63_2_eq k xs xs (xs.length : Int) (pre.length : Int)) ?_
    have he : xs = pre := by rw [he]; simp
    subst he
    simp only [Int.lt_irrefl, decide_false, Bool.false_eq_true, if_false, chk, Bool.true_and]
    refine Ev.bind (Ev.later (s66 hl ht) _) ?_
    exact Ev.now
  | y :: ys, pre, he => by
    refine Ev.eqn 17 (fun k => p63_2_eq k xs xs (xs.length : Int) (pre.length : Int)) ?_
    have hlt : ((pre.length : Nat) : Int) < (xs.length : Int) := by rw [he]; exact lt_len
    have hg : List.getD xs (Int.toNat (pre.length : Int)) tFile.dflt = y := by rw [he]; exact getD_at
    have hcont : Ev (fun k => p63_2 k xs xs (xs.length : Int) (IntKind.i64.wrap ((pre.length : Int) + 1))) ((chk (some y.1) ys && fewOk xs, ()), ()) := by
      rw [wr1 (y := y) (by omega) hl]
      have := s63_loop hl ht ys (pre ++ [y]) (by rw [he]; simp)
      rw [prev_snoc] at this
      exact this
    simp only [hlt, nn, decide_true, if_true, hg]
    refine Ev.bind (Ev.later (s98 y.1) _) ?_
    simp only [chk]
    cases hn : nameOk y.1 with
    | false =>
      simp only [Bool.not_false, if_true, Bool.false_and]
      exact Ev.now
    | true =>
      simp only [Bool.not_true, Bool.false_eq_true, if_false, Bool.true_and]
      rcases List.eq_nil_or_concat pre with rfl | ⟨p2, q, hpq⟩
      · simp only [List.length_nil, Int.natCast_zero, gt_iff_lt, Int.lt_irrefl, decide_false, Bool.false_eq_true, if_false, prev, List.getLast?_nil, Option.map_none, Bool.true_and] at hcont ⊢
        exact Ev.later hcont _
      · rw [List.concat_eq_append] at hpq
        subst hpq
        have hlen : ((p2 ++ [q]).length : Int) = p2.length + 1 := by simp
        have hpos : ((p2 ++ [q]).length : Int) > 0 := by omega
        have hw : IntKind.i64.wrap (((p2 ++ [q]).length : Int) - 1) = (p2.length : Int) := by
          rw [wr (by omega) (by omega)]
          omega
        have hlt2 : (p2.length : Int) < (xs.length : Int) := by omega
        have hg2 : List.getD xs (Int.toNat (p2.length : Int)) tFile.dflt = q := by
          rw [he, List.append_assoc]
          exact getD_at
        have hb : Op.bytesLess (ByteArray.toList q.1) (ByteArray.toList y.1) = ltS q.1 y.1 := rfl
        simp only [hpos, decide_true, if_true, hw, nn, hlt2, hg2, prev_snoc, hb]
        cases hq : ltS q.1 y.1 with
        | false =>
          simp only [Bool.not_false, if_true, Bool.false_and]
          exact Ev.now
        | true =>
          simp only [Bool.not_true, Bool.false_eq_true, if_false, Bool.true_and]
          exact Ev.later hcont _
theorem filesOk_eq (xs : List dFile) : (chk none xs && fewOk xs) = filesOk xs := by
  unfold filesOk fewOk
  cases chk none xs <;> simp
theorem s63 {xs : List dFile} (hl : xs.length ≤ 1099511627776) (ht : (tot xs : Int) ≤ 4611686018427387904) : Ev (fun k => c63 k xs) ((filesOk xs, ()), ()) := by
  rw [← filesOk_eq]
  exact Ev.eqn 9 (fun k => c63_eq k xs) (Ev.later (s63_loop hl ht xs [] rfl) 1)
/-! ### Finding -/
theorem s114 (x : dFile) (nm : ByteArray) : Ev (fun k => c114 k x nm) ((decide (x.1 = nm), ()), (nm, ())) := by
  refine Ev.eqn 5 (fun k => c114_eq k x nm) ?_
  rw [eqS]
  exact Ev.now
theorem s119 (x : dFile) (nm : ByteArray) : Ev (fun k => c119 k x nm) ((decide (x.1 = nm), ()), (nm, ())) := by
  refine Ev.eqn 5 (fun k => c119_eq k x nm) ?_
  rw [eqS]
  exact Ev.now
theorem s113_loop {xs : List dFile} {nm : ByteArray} (hl : xs.length ≤ 1099511627776) : ∀ (ys pre : List dFile), xs = pre ++ ys → Ev (fun k => p113_2 k xs (xs.length : Int) (pre.length : Int) nm) ((fnd nm ys (pre.length : Int), ()), (nm, ()))
  | [], pre, he => by
    refine Ev.eqn 17 (fun k => p113_2_eq k xs (xs.length : Int) (pre.length : Int) nm) ?_
    have he : xs = pre := by rw [he]; simp
    subst he
    simp only [Int.lt_irrefl, decide_false, Bool.false_eq_true, if_false, fnd]
    exact Ev.now
  | y :: ys, pre, he => by
    refine Ev.eqn 17 (fun k => p113_2_eq k xs (xs.length : Int) (pre.length : Int) nm) ?_
    have hlt : ((pre.length : Nat) : Int) < (xs.length : Int) := by rw [he]; exact lt_len
    have hg : List.getD xs (Int.toNat (pre.length : Int)) tFile.dflt = y := by rw [he]; exact getD_at
    simp only [hlt, nn, decide_true, if_true, hg]
    refine Ev.bind (Ev.later (s114 y nm) _) ?_
    simp only [decide_eq_true_eq, fnd]
    by_cases h : y.1 = nm
    · simp only [h, if_true]
      exact Ev.now
    · simp only [h, if_false]
      rw [wr1 (y := y) (by omega) hl, len_snoc (y := y)]
      exact Ev.later (s113_loop hl ys (pre ++ [y]) (by rw [he]; simp)) 1
theorem s113 {xs : List dFile} {nm : ByteArray} (hl : xs.length ≤ 1099511627776) : Ev (fun k => c113 k xs nm) ((fnd nm xs 0, ()), (nm, ())) :=
  Ev.eqn 9 (fun k => c113_eq k xs nm) (Ev.later (s113_loop hl xs [] rfl) 1)
theorem s113'_loop {xs : List dFile} {nm : ByteArray} (hl : xs.length ≤ 1099511627776) : ∀ (ys pre : List dFile), xs = pre ++ ys → Ev (fun k => p113_2' k xs (xs.length : Int) (pre.length : Int) nm) ((fnd nm ys (pre.length : Int), ()), (nm, ()))
  | [], pre, he => by
    refine Ev.eqn 17 (fun k => p113_2'_eq k xs (xs.length : Int) (pre.length : Int) nm) ?_
    have he : xs = pre := by rw [he]; simp
    subst he
    simp only [Int.lt_irrefl, decide_false, Bool.false_eq_true, if_false, fnd]
    exact Ev.now
  | y :: ys, pre, he => by
    refine Ev.eqn 17 (fun k => p113_2'_eq k xs (xs.length : Int) (pre.length : Int) nm) ?_
    have hlt : ((pre.length : Nat) : Int) < (xs.length : Int) := by rw [he]; exact lt_len
    have hg : List.getD xs (Int.toNat (pre.length : Int)) tFile.dflt = y := by rw [he]; exact getD_at
    simp only [hlt, nn, decide_true, if_true, hg]
    refine Ev.bind (Ev.later (s119 y nm) _) ?_
    simp only [decide_eq_true_eq, fnd]
    by_cases h : y.1 = nm
    · simp only [h, if_true]
      exact Ev.now
    · simp only [h, if_false]
      rw [wr1 (y := y) (by omega) hl, len_snoc (y := y)]
      exact Ev.later (s113'_loop hl ys (pre ++ [y]) (by rw [he]; simp)) 1
theorem s113' {xs : List dFile} {nm : ByteArray} (hl : xs.length ≤ 1099511627776) : Ev (fun k => c113' k xs nm) ((fnd nm xs 0, ()), (nm, ())) :=
  Ev.eqn 9 (fun k => c113'_eq k xs nm) (Ev.later (s113'_loop hl xs [] rfl) 1)
theorem s82 {xs : List dFile} {nm : ByteArray} (hl : xs.length ≤ 1099511627776) : Ev (fun k => c82 k xs nm) ((fnd nm xs 0, ()), ()) := by
  refine Ev.eqn 5 (fun k => c82_eq k xs nm) ?_
  refine Ev.bind (Ev.later (s113 hl) _) ?_
  exact Ev.now
/-! ### Without one -/
theorem c107_eq (k : Nat) (xs : List dFile) : c107 k xs = if xs.length * 32 ≤ 140737488355328 then some ((xs, ()), ()) else none := by kernel_rfl
theorem s107 {xs : List dFile} (hl : xs.length ≤ 1099511627776) : Ev (fun k => c107 k xs) ((xs, ()), ()) := ⟨0, fun k _ => by
  show c107 k xs = _
  rw [c107_eq, if_pos (mul32 (by omega))]⟩
theorem s118_loop {nm : ByteArray} : ∀ (ys a : List dFile) (m0 : dFile) (m : List dFile), a.length + m.length + ys.length ≤ 1099511627776 → Ev (fun k => p118_5 k (a.length : Int) ((a ++ m0 :: m).length : Int) ((a ++ m0 :: m) ++ ys) nm) ((a ++ cutF nm ys, ()), (nm, ()))
  | [], a, m0, m, hl => by
    refine Ev.eqn 19 (fun k => p118_5_eq k (a.length : Int) ((a ++ m0 :: m).length : Int) ((a ++ m0 :: m) ++ []) nm) ?_
    have h1 : ((a.length : Nat) : Int) < ((a ++ m0 :: m).length : Int) := lt_len
    have h2 : List.take (Int.toNat (a.length : Int)) (List.take (Int.toNat (a.length : Int)) (a ++ m0 :: m) ++ List.replicate ((a ++ m0 :: m).length - Int.toNat (a.length : Int)) tFile.dflt) = a := by simp
    have h3 : ((a.length : Nat) : Int) ≤ ((List.take (Int.toNat (a.length : Int)) (a ++ m0 :: m) ++ List.replicate ((a ++ m0 :: m).length - Int.toNat (a.length : Int)) tFile.dflt).length : Int) := by
      simp only [List.length_append, List.length_take, List.length_replicate, Int.toNat_natCast, List.length_cons]
      omega
    simp only [List.append_nil, Int.lt_irrefl, decide_false, Bool.false_eq_true, if_false, nn, if_true, h1, h2, h3, cutF, List.filter_nil]
    exact Ev.now
  | y :: ys, a, m0, m, hl => by
    refine Ev.eqn 19 (fun k => p118_5_eq k (a.length : Int) ((a ++ m0 :: m).length : Int) ((a ++ m0 :: m) ++ y :: ys) nm) ?_
    have hlt : (((a ++ m0 :: m).length : Nat) : Int) < (((a ++ m0 :: m) ++ y :: ys).length : Int) := lt_len
    have h1 : ((a.length : Nat) : Int) < (((a ++ m0 :: m) ++ y :: ys).length : Int) := by
      rw [List.append_assoc]
      exact lt_len
    have hg : List.getD ((a ++ m0 :: m) ++ y :: ys) (Int.toNat ((a ++ m0 :: m).length : Int)) tFile.dflt = y := getD_at
    have e : ((y.1, y.2.1, ()) : dFile) = y := rfl
    have hset : List.set ((a ++ m0 :: m) ++ y :: ys) (Int.toNat (a.length : Int)) y = ((a ++ [y]) ++ (m ++ [y])) ++ ys := by
      rw [List.append_assoc, List.cons_append, set_at]
      simp
    have hll : ((a ++ m0 :: m).length : Int) = a.length + m.length + 1 := by simp only [List.length_append, List.length_cons]; omega
    have hw : IntKind.i64.wrap (((a ++ m0 :: m).length : Int) + 1) = ((a ++ m0 :: (m ++ [y])).length : Int) := by
      simp only [List.length_cons] at hl
      rw [wr (by omega) (by omega)]
      simp only [List.length_append, List.length_cons, List.length_nil]
      omega
    have hw2 : IntKind.i64.wrap ((a.length : Int) + 1) = ((a ++ [y]).length : Int) := by
      simp only [List.length_cons] at hl
      rw [wr (by omega) (by omega), len_snoc]
    simp only [hlt, nn, decide_true, if_true, hg]
    refine Ev.bind (Ev.later (s119 (y.1, y.2.1, ()) nm) _) ?_
    simp only [e]
    by_cases h : y.1 = nm
    · have e2 : cutF nm (y :: ys) = cutF nm ys := by simp [cutF, h]
      simp only [h, decide_true, Bool.not_true, Bool.false_eq_true, if_false, e2, hw]
      have := s118_loop (nm := nm) ys a m0 (m ++ [y]) (by simp only [List.length_append, List.length_cons, List.length_nil] at hl ⊢; omega)
      rw [show (a ++ m0 :: (m ++ [y])) ++ ys = (a ++ m0 :: m) ++ y :: ys by simp] at this
      exact Ev.later this _
    · have e2 : cutF nm (y :: ys) = y :: cutF nm ys := by simp [cutF, h]
      simp only [h, decide_false, Bool.not_false, if_true, e2, nn, h1, hw2, hset, hw]
      cases hm : m ++ [y] with
      | nil => simp at hm
      | cons n0 n =>
        have hmn : m.length = n.length := by
          have := congrArg List.length hm
          simpa using this
        have := s118_loop (nm := nm) ys (a ++ [y]) n0 n (by simp only [List.length_append, List.length_cons, List.length_nil] at hl ⊢; omega)
        rw [List.append_assoc a [y] (cutF nm ys)] at this
        have hlen : ((a ++ m0 :: n0 :: n).length : Int) = (((a ++ [y]) ++ n0 :: n).length : Int) := by simp
        rw [hlen]
        exact Ev.later this _
theorem cut_none {nm : ByteArray} {xs : List dFile} (h : ∀ y ∈ xs, y.1 ≠ nm) : cutF nm xs = xs := by
  unfold cutF
  rw [List.filter_eq_self]
  intro y hy
  simp [h y hy]
theorem s118 {xs : List dFile} {nm : ByteArray} (hl : xs.length ≤ 1099511627776) : Ev (fun k => c118 k xs nm) ((cutF nm xs, ()), (nm, ())) := by
  refine Ev.eqn 17 (fun k => c118_eq k xs nm) ?_
  refine Ev.bind (Ev.later (s113' hl) _) ?_
  rcases fnd_cases nm xs 0 (Int.le_refl _) with ⟨h1, h2⟩ | ⟨a, y, b, rfl, h2, h3, h4⟩
  · simp only [h2, beq_self_eq_true, if_true, cut_none h1]
    exact Ev.now
  · have h5 : ((0 : Int) + (a.length : Int) == -1) = false := by
      simp
    simp only [h4, h5, Bool.false_eq_true, if_false, Int.zero_add]
    simp only [List.length_append, List.length_cons] at hl
    have hw : IntKind.i64.wrap ((a.length : Int) + 1) = ((a ++ y :: []).length : Int) := by rw [wr (by omega) (by omega), len_snoc]
    have e : cutF nm (a ++ y :: b) = a ++ cutF nm b := by
      unfold cutF
      rw [List.filter_append, List.filter_cons_of_neg (by simp [h2])]
      congr 1
      exact cut_none h3
    have hz : ((a.length : Int) == -1) = false := by
      simp
    simp only [hz, Bool.false_eq_true, if_false, hw, e]
    have := s118_loop (nm := nm) b a y [] (by simp only [List.length_nil]; omega)
    rw [show (a ++ y :: []) ++ b = a ++ y :: b by simp] at this
    exact Ev.later this _
theorem s99 {xs : List dFile} {nm : ByteArray} (hl : xs.length ≤ 1099511627776) : Ev (fun k => c99 k xs nm) ((cutF nm xs, ()), ()) := by
  refine Ev.eqn 5 (fun k => c99_eq k xs nm) ?_
  refine Ev.bind (Ev.later (s107 hl) _) ?_
  refine Ev.bind (Ev.later (s118 hl) _) ?_
  exact Ev.now
/-! ### Done -/
abbrev ltF (a b : dFile) : Bool := ltS a.1 b.1
theorem c100_eq (k : Nat) (xs : List dFile) : c100 k xs = if xs.length < 4611686018427387904 then some ((), sorted (α := tFile.den) ltF xs, ()) else none := by kernel_rfl
theorem s100 {xs : List dFile} (hl : xs.length ≤ 1099511627777) : Ev (fun k => c100 k xs) ((), sorted (α := tFile.den) ltF xs, ()) := ⟨0, fun k _ => by
  show c100 k xs = _
  rw [c100_eq, if_pos (by omega)]⟩
noncomputable def doH (xs : List dFile) (o : dDOp) : List dFile × Bool :=
  if o.1 = 1 then (sorted (α := tFile.den) ltF (cutF o.2.1 (cutF o.2.1 xs) ++ [(o.2.1, ((if fnd o.2.1 xs 0 < 0 then e0 else (List.getD xs (fnd o.2.1 xs 0).toNat tFile.dflt).2.1) ++ o.2.2.2.1), ())]), true)
  else if fnd o.2.1 xs 0 < 0 then (xs, false)
  else if o.1 = 3 then (cutF o.2.1 xs, true)
  else (sorted (α := tFile.den) ltF (cutF o.2.2.1 (cutF o.2.1 xs) ++ [(o.2.2.1, (List.getD xs (fnd o.2.1 xs 0).toNat tFile.dflt).2.1, ())]), true)
theorem s64 {xs : List dFile} {o : dDOp} (hl : xs.length ≤ 1099511627776) (ht : tot xs ≤ 2305843009213693952) (ho : o.2.2.2.1.size ≤ 2305843009213693952) : Ev (fun k => c64 k xs o) (((doH xs o).1, (doH xs o).2, ()), ()) := by
  refine Ev.eqn 31 (fun k => c64_eq k xs o) ?_
  refine Ev.bind (Ev.later (s82 (nm := o.2.1) hl) _) ?_
  have hcc : ∀ nm2 : ByteArray, (cutF nm2 (cutF o.2.1 xs)).length ≤ 1099511627776 := fun nm2 => Nat.le_trans (Nat.le_trans cut_len cut_len) hl
  have hc : (cutF o.2.1 xs).length ≤ 1099511627776 := Nat.le_trans cut_len hl
  have happ : ∀ (nm2 : ByteArray) (f : dFile), (List.length (cutF nm2 (cutF o.2.1 xs)) + List.length ([f] : List dFile)) * 32 ≤ 140737488355328 := fun nm2 f => mul32 (by
    have := hcc nm2
    rw [List.length_singleton]
    omega)
  have hs : ∀ (nm2 : ByteArray) (f : dFile), ((cutF nm2 (cutF o.2.1 xs)) ++ [f]).length ≤ 1099511627777 := fun nm2 f => by
    have := hcc nm2
    rw [List.length_append, List.length_singleton]
    omega
  unfold doH
  simp only [beq_iff_eq, decide_eq_true_eq, ge_iff_le]
  by_cases h2 : fnd o.2.1 xs 0 < 0
  · have h3 : ¬ 0 ≤ fnd o.2.1 xs 0 := by omega
    simp only [h2, h3, if_false, if_true]
    by_cases h1 : o.1 = 1
    · have hsz : ByteArray.size e0 + o.2.2.2.1.size ≤ 9223372036854775807 := by
        have : ByteArray.size e0 = 0 := rfl
        omega
      simp only [h1, hsz, if_true]
      refine Ev.bind (Ev.later (s99 hl) _) ?_
      refine Ev.bind (Ev.later (s99 hc) _) ?_
      simp only [happ, if_true]
      refine Ev.bind (Ev.later (s100 (hs _ _)) _) ?_
      exact Ev.now
    · simp only [h1, if_false]
      exact Ev.now
  · obtain ⟨h3, h4, h5, h6⟩ := fnd_lt h2
    have h7 := mem_tot h5
    simp only [h2, h3, h4, if_false, if_true]
    by_cases h1 : o.1 = 1
    · have hsz : (List.getD xs (fnd o.2.1 xs 0).toNat tFile.dflt).2.1.size + o.2.2.2.1.size ≤ 9223372036854775807 := by omega
      simp only [h1, hsz, h6, if_true]
      refine Ev.bind (Ev.later (s99 hl) _) ?_
      refine Ev.bind (Ev.later (s99 hc) _) ?_
      simp only [happ, if_true]
      refine Ev.bind (Ev.later (s100 (hs _ _)) _) ?_
      exact Ev.now
    · simp only [h1, if_false]
      by_cases h8 : o.1 = 3
      · simp only [h8, if_true]
        refine Ev.bind (Ev.later (s99 hl) _) ?_
        exact Ev.now
      · simp only [h8, if_false]
        refine Ev.bind (Ev.later (s99 hl) _) ?_
        refine Ev.bind (Ev.later (s99 hc) _) ?_
        simp only [happ, if_true]
        refine Ev.bind (Ev.later (s100 (hs _ _)) _) ?_
        exact Ev.now
theorem s103 (a b c : Int) : Ev (fun k => c103 k a b c) ((decide (a ≥ b) && decide (a ≤ c), ()), ()) := by
  refine Ev.eqn 5 (fun k => c103_eq k a b c) ?_
  by_cases h : a ≥ b
  · simp only [h, decide_true, if_true, Bool.true_and]
    exact Ev.now
  · simp only [h, decide_false, Bool.false_eq_true, if_false, Bool.false_and]
    exact Ev.now
theorem s65 (o : dDOp) : Ev (fun k => c65 k o) ((formOk o, ()), ()) := by
  refine Ev.eqn 5 (fun k => c65_eq k o) ?_
  refine Ev.bind (Ev.later (s103 _ _ _) _) ?_
  unfold formOk
  cases h1 : (decide (o.1 ≥ 1) && decide (o.1 ≤ 3)) with
  | false =>
    simp only [Bool.false_eq_true, if_false, Bool.false_and]
    exact Ev.now
  | true =>
    simp only [if_true, Bool.true_and]
    refine Ev.bind (Ev.later (s98 _) _) ?_
    cases h2 : nameOk o.2.1 with
    | false =>
      simp only [Bool.false_eq_true, if_false, Bool.false_and]
      exact Ev.now
    | true =>
      simp only [if_true, Bool.true_and, beq_iff_eq, bne_iff_ne, ne_eq, eqS, decide_eq_true_eq]
      by_cases h3 : o.1 = 2
      · have h31 : ¬ o.1 = 1 := by omega
        simp only [h3, if_true, not_true_eq_false, if_false]
        refine Ev.bind (Ev.later (s98 _) _) ?_
        cases h4 : nameOk o.2.2.1 with
        | false =>
          simp only [Bool.false_eq_true, if_false, Bool.false_and]
          exact Ev.now
        | true =>
          simp only [if_true, Bool.true_and]
          rw [if_neg (by decide)]
          exact Ev.now
      · simp only [h3, if_false, not_false_eq_true, if_true]
        by_cases h4 : o.2.2.1 = e0
        · simp only [h4, if_true, decide_true, Bool.true_and]
          by_cases h5 : o.1 = 1
          · simp only [h5, if_true, decide_true, Bool.true_or]
            exact Ev.now
          · simp only [h5, if_false, decide_false, Bool.false_or]
            exact Ev.now
        · simp only [h4, if_false, decide_false, Bool.false_and]
          exact Ev.now
theorem s67_loop {xs zs : List dFile} (hl : xs.length ≤ 1099511627776) (hz : zs.length = xs.length) : ∀ (ys ws pre qre : List dFile), xs = pre ++ ys → zs = qre ++ ws → qre.length = pre.length → Ev (fun k => p67_4 k xs zs (xs.length : Int) (pre.length : Int)) ((decide (ys = ws), ()), ())
  | [], ws, pre, qre, he, he', hp => by
    refine Ev.eqn 17 (fun k => p67_4_eq k xs zs (xs.length : Int) (pre.length : Int)) ?_
    have hw : ws = [] := by
      rw [he, he'] at hz
      simp only [List.length_append, List.length_nil] at hz
      exact List.eq_nil_of_length_eq_zero (by omega)
    have he : xs = pre := by rw [he]; simp
    subst he
    subst hw
    simp only [Int.lt_irrefl, decide_false, Bool.false_eq_true, if_false, decide_true]
    exact Ev.now
  | y :: ys, [], pre, qre, he, he', hp => by
    rw [he, he'] at hz
    simp only [List.length_append, List.length_nil, List.length_cons] at hz
    omega
  | y :: ys, w :: ws, pre, qre, he, he', hp => by
    refine Ev.eqn 17 (fun k => p67_4_eq k xs zs (xs.length : Int) (pre.length : Int)) ?_
    have hlt : ((pre.length : Nat) : Int) < (xs.length : Int) := by rw [he]; exact lt_len
    have hlt2 : ((pre.length : Nat) : Int) < (zs.length : Int) := by rw [hz]; exact hlt
    have hg : List.getD xs (Int.toNat (pre.length : Int)) tFile.dflt = y := by rw [he]; exact getD_at
    have hg2 : List.getD zs (Int.toNat (pre.length : Int)) tFile.dflt = w := by rw [he', ← hp]; exact getD_at
    simp only [hlt, hlt2, nn, decide_true, if_true, hg, hg2, eqB_file]
    by_cases h : y = w
    · subst h
      simp only [decide_true, Bool.not_true, Bool.false_eq_true, if_false, List.cons.injEq, true_and]
      rw [wr1 (y := y) (by omega) hl]
      exact Ev.later (s67_loop hl hz ys ws (pre ++ [y]) (qre ++ [y]) (by rw [he]; simp) (by rw [he']; simp) (by simp [hp])) 1
    · simp only [h, decide_false, Bool.not_false, if_true, List.cons.injEq, false_and]
      exact Ev.now
theorem s67 {xs zs : List dFile} (hl : xs.length ≤ 1099511627776) : Ev (fun k => c67 k xs zs) ((decide (xs = zs), ()), ()) := by
  refine Ev.eqn 14 (fun k => c67_eq k xs zs) ?_
  by_cases h : (xs.length : Int) = (zs.length : Int)
  · have hz : zs.length = xs.length := by omega
    have h3 : ((xs.length : Int) != (zs.length : Int)) = false := by simpa using h
    simp only [h3, Bool.false_eq_true, if_false]
    exact Ev.later (s67_loop hl hz xs zs [] [] rfl rfl rfl) 1
  · have h2 : xs ≠ zs := fun e => h (by rw [e])
    have h3 : ((xs.length : Int) != (zs.length : Int)) = true := by simpa using h
    simp only [h3, h2, if_true, decide_false]
    exact Ev.now
end Go.Proofs.Ytcfnhfbaakflgaa.Abs
