/- What the reference's DiskOk and ReadFile say. -/
import Derived.Test.YtcfnhfbaakflgaaAbsPDisk2
set_option linter.unusedVariables false
set_option linter.unusedSimpArgs false
namespace Go.Proofs.Ytcfnhfbaakflgaa.Abs
open Go

theorem wr1 {α : Type} {xs : List α} {pre : List α} {y : α} (hx : pre.length + 1 ≤ xs.length) (hl : xs.length ≤ 1099511627776) : IntKind.i64.wrap ((pre.length : Int) + 1) = ((pre ++ [y]).length : Int) := by
  rw [wr (by omega) (by omega), len_snoc]
/-- Files behind an operation; is there the file? -/
def doF (xs : List dFile) (o : dDOp) : List dFile × Bool :=
  if o.1 = 1 then (putG o.2.1 (if fnd o.2.1 xs 0 ≥ 0 then (List.getD xs (fnd o.2.1 xs 0).toNat tFile.dflt).2.1 ++ o.2.2.2.1 else o.2.2.2.1) false xs, true)
  else if fnd o.2.1 xs 0 < 0 then (xs, false)
  else if o.1 = 2 then (putG o.2.2.1 (List.getD xs (fnd o.2.1 xs 0).toNat tFile.dflt).2.1 false (cutF o.2.1 xs), true)
  else (cutF o.2.1 xs, true)
theorem fnd_lt {nm : ByteArray} {xs : List dFile} (h : ¬ fnd nm xs 0 < 0) : 0 ≤ fnd nm xs 0 ∧ fnd nm xs 0 < (xs.length : Int) ∧ (List.getD xs (fnd nm xs 0).toNat tFile.dflt) ∈ xs ∧ (List.getD xs (fnd nm xs 0).toNat tFile.dflt).1 = nm := by
  rcases fnd_cases nm xs 0 (Int.le_refl _) with ⟨_, h2⟩ | ⟨a, y, b, rfl, h2, h3, h4⟩
  · rw [h2] at h
    exact absurd (by decide) h
  · rw [h4, Int.zero_add, getD_at]
    exact ⟨nn _, lt_len, by simp, h2⟩
theorem mem_tot : ∀ {xs : List dFile} {y : dFile}, y ∈ xs → y.2.1.size ≤ tot xs
  | z :: l, y, h => by
    simp only [tot]
    rcases List.mem_cons.1 h with rfl | h
    · omega
    · have := mem_tot h
      omega
theorem cut_len {nm : ByteArray} {xs : List dFile} : (cutF nm xs).length ≤ xs.length := List.length_filter_le _ _
theorem s69 {xs : List dFile} {o : dDOp} (hl : xs.length ≤ 1099511627776) (ht : tot xs ≤ 2305843009213693952) (ho : o.2.2.2.1.size ≤ 2305843009213693952) : Ev (fun k => c69 k xs o) (((doF xs o).1, (doF xs o).2, ()), ()) := by
  refine Ev.eqn 24 (fun k => c69_eq k xs o) ?_
  refine Ev.bind (Ev.later (s81 (nm := o.2.1) (by omega)) _) ?_
  unfold doF
  simp only [beq_iff_eq, decide_eq_true_eq, ge_iff_le]
  by_cases h1 : o.1 = 1
  · simp only [h1, if_true]
    by_cases h2 : fnd o.2.1 xs 0 < 0
    · have h3 : ¬ 0 ≤ fnd o.2.1 xs 0 := by omega
      simp only [h3, if_false]
      refine Ev.bind (Ev.later (s105 hl) _) ?_
      exact Ev.now
    · obtain ⟨h3, h4, h5, h6⟩ := fnd_lt h2
      have h7 := mem_tot h5
      have h8 : (List.getD xs (fnd o.2.1 xs 0).toNat tFile.dflt).2.1.size + o.2.2.2.1.size ≤ 9223372036854775807 := by omega
      simp only [h3, h4, h8, if_true]
      refine Ev.bind (Ev.later (s105 hl) _) ?_
      exact Ev.now
  · simp only [h1, if_false]
    by_cases h2 : fnd o.2.1 xs 0 < 0
    · have h9 : (List.length ([] : List dFile) + xs.length) * 32 ≤ 140737488355328 := mul32 (by simp only [List.length_nil]; omega)
      simp only [h2, h9, if_true, List.nil_append]
      exact Ev.now
    · obtain ⟨h3, h4, h5, h6⟩ := fnd_lt h2
      simp only [h2, if_false]
      refine Ev.bind (Ev.later (s106 hl) _) ?_
      by_cases h9 : o.1 = 2
      · simp only [h9, h3, h4, if_true]
        refine Ev.bind (Ev.later (s105 (Nat.le_trans cut_len hl)) _) ?_
        exact Ev.now
      · simp only [h9, if_false]
        exact Ev.now
theorem s94 (a b c : Int) : Ev (fun k => c94 k a b c) ((decide (a ≥ b) && decide (a ≤ c), ()), ()) := by
  refine Ev.eqn 5 (fun k => c94_eq k a b c) ?_
  by_cases h : a ≥ b
  · simp only [h, decide_true, if_true, Bool.true_and]
    exact Ev.now
  · simp only [h, decide_false, Bool.false_eq_true, if_false, Bool.false_and]
    exact Ev.now
abbrev e0 : ByteArray := ⟨#[]⟩
/-- Has an operation its form? -/
def formOk (o : dDOp) : Bool := (decide (o.1 ≥ 1) && decide (o.1 ≤ 3)) && nameOk o.2.1 && (if o.1 = 2 then nameOk o.2.2.1 && decide (o.2.2.2.1 = e0) else decide (o.2.2.1 = e0) && (decide (o.1 = 1) || decide (o.2.2.2.1 = e0)))
theorem s70 (o : dDOp) : Ev (fun k => c70 k o) ((formOk o, ()), ()) := by
  refine Ev.eqn 15 (fun k => c70_eq k o) ?_
  refine Ev.bind (Ev.later (s94 _ _ _) _) ?_
  unfold formOk
  cases h1 : (decide (o.1 ≥ 1) && decide (o.1 ≤ 3)) with
  | false =>
    simp only [Bool.not_false, if_true, Bool.false_and]
    exact Ev.now
  | true =>
    simp only [Bool.not_true, Bool.false_eq_true, if_false, Bool.true_and]
    refine Ev.bind (Ev.later (s104 _) _) ?_
    cases h2 : nameOk o.2.1 with
    | false =>
      simp only [Bool.not_false, if_true, Bool.false_and]
      exact Ev.now
    | true =>
      simp only [Bool.not_true, Bool.false_eq_true, if_false, Bool.true_and, beq_iff_eq, eqS, decide_eq_true_eq]
      by_cases h3 : o.1 = 2
      · simp only [h3, if_true]
        refine Ev.bind (Ev.later (s104 _) _) ?_
        cases h4 : nameOk o.2.2.1 with
        | false =>
          simp only [Bool.false_eq_true, if_false, Bool.false_and]
          exact Ev.now
        | true =>
          simp only [if_true, Bool.true_and]
          exact Ev.now
      · simp only [h3, if_false]
        by_cases h4 : o.2.2.1 = e0
        · simp only [h4, if_true, decide_true, Bool.true_and]
          by_cases h5 : o.1 = 1
          · simp only [h5, if_true, decide_true, Bool.true_or]
            exact Ev.now
          · simp only [h5, if_false, decide_false, Bool.false_or]
            exact Ev.now
        · simp only [h4, if_false, decide_false, Bool.false_and]
          exact Ev.now
theorem eqB_file (a b : dFile) : eqB tFile a b = decide (a = b) := by
  obtain ⟨a1, a2, ⟨⟩⟩ := a
  obtain ⟨b1, b2, ⟨⟩⟩ := b
  show ((a1 == b1) && ((a2 == b2) && true)) = _
  rw [beq_toListBytes, beq_toListBytes, eqS, eqS, Bool.and_true]
  by_cases h1 : a1 = b1 <;> by_cases h2 : a2 = b2 <;> simp [h1, h2]
theorem s71_loop {xs zs : List dFile} (hl : xs.length ≤ 1099511627776) (hz : zs.length = xs.length) : ∀ (ys ws pre qre : List dFile), xs = pre ++ ys → zs = qre ++ ws → qre.length = pre.length → Ev (fun k => p71_4 k xs zs (pre.length : Int)) ((decide (ys = ws), ()), ())
  | [], ws, pre, qre, he, he', hp => by
    refine Ev.eqn 15 (fun k => p71_4_eq k xs zs (pre.length : Int)) ?_
    have hw : ws = [] := by
      rw [he, he'] at hz
      simp only [List.length_append, List.length_nil] at hz
      exact List.eq_nil_of_length_eq_zero (by omega)
    have he : xs = pre := by rw [he]; simp
    subst he
    subst hw
    simp only [Int.lt_irrefl, decide_false, Bool.false_eq_true, if_false, decide_true]
    exact Ev.now
  | y :: ys, [], pre, qre, he, he', hp => by
    rw [he, he'] at hz
    simp only [List.length_append, List.length_nil, List.length_cons] at hz
    omega
  | y :: ys, w :: ws, pre, qre, he, he', hp => by
    refine Ev.eqn 15 (fun k => p71_4_eq k xs zs (pre.length : Int)) ?_
    have hlt : ((pre.length : Nat) : Int) < (xs.length : Int) := by rw [he]; exact lt_len
    have hlt2 : ((pre.length : Nat) : Int) < (zs.length : Int) := by rw [hz]; exact hlt
    have hg : List.getD xs (Int.toNat (pre.length : Int)) tFile.dflt = y := by rw [he]; exact getD_at
    have hg2 : List.getD zs (Int.toNat (pre.length : Int)) tFile.dflt = w := by rw [he', ← hp]; exact getD_at
    simp only [hlt, hlt2, nn, decide_true, if_true, hg, hg2, eqB_file]
    by_cases h : y = w
    · subst h
      simp only [decide_true, Bool.not_true, Bool.false_eq_true, if_false, List.cons.injEq, true_and]
      rw [wr1 (y := y) (by omega) hl]
      exact Ev.later (s71_loop hl hz ys ws (pre ++ [y]) (qre ++ [y]) (by rw [he]; simp) (by rw [he']; simp) (by simp [hp])) 1
    · simp only [h, decide_false, Bool.not_false, if_true, List.cons.injEq, false_and]
      exact Ev.now
theorem s71 {xs zs : List dFile} (hl : xs.length ≤ 1099511627776) : Ev (fun k => c71 k xs zs) ((decide (xs = zs), ()), ()) := by
  refine Ev.eqn 15 (fun k => c71_eq k xs zs) ?_
  by_cases h : (xs.length : Int) = (zs.length : Int)
  · have hz : zs.length = xs.length := by omega
    simp only [h, bne_self_eq_false, Bool.false_eq_true, if_false]
    exact Ev.later (s71_loop hl hz xs zs [] [] rfl rfl rfl) 1
  · have h2 : xs ≠ zs := fun e => h (by rw [e])
    have h3 : ((xs.length : Int) != (zs.length : Int)) = true := by simpa using h
    simp only [h3, h2, if_true, decide_false]
    exact Ev.now
/-- The operations, one behind the other. -/
def runF : List dFile → List dDOp → Option (List dFile)
  | xs, [] => some xs
  | xs, o :: l => if (doF xs o).2 && formOk o && filesOk (doF xs o).1 then runF (doF xs o).1 l else none
def okD (d : dDisk') : Bool := filesOk d.1 && filesOk d.2.1 && decide ((d.2.2.1.length : Int) ≤ 200) && (match runF d.2.1 d.2.2.1 with | some xs => decide (xs = d.1) | none => false)
theorem tot_put {nm data : ByteArray} : ∀ {xs : List dFile} {d : Bool}, tot (putG nm data d xs) ≤ tot xs + data.size ∧ (putG nm data d xs).length ≤ xs.length + 1 ∧ (d = true → tot (putG nm data d xs) ≤ tot xs ∧ (putG nm data d xs).length ≤ xs.length)
  | [], d => by
    cases d <;> simp [putG, tot]
  | y :: l, d => by
    have i1 := tot_put (nm := nm) (data := data) (xs := l) (d := true)
    have i2 := tot_put (nm := nm) (data := data) (xs := l) (d := d)
    have i1' := i1.2.2 rfl
    unfold putG
    split
    · rename_i hd
      rw [hd.1]
      split
      · simp only [tot, List.length_cons, reduceCtorEq, false_implies, and_true]
        omega
      · simp only [tot, List.length_cons, reduceCtorEq, false_implies, and_true]
        omega
    · split
      · simp only [tot, List.length_cons]
        refine ⟨by omega, by omega, fun h => ?_⟩
        have := i2.2.2 h
        omega
      · simp only [tot, List.length_cons]
        refine ⟨by omega, by omega, fun h => ?_⟩
        have := i2.2.2 h
        omega
theorem tot_cut {nm : ByteArray} : ∀ {xs : List dFile}, tot (cutF nm xs) ≤ tot xs
  | [] => Nat.le_refl _
  | y :: l => by
    have ih := tot_cut (nm := nm) (xs := l)
    unfold cutF at ih ⊢
    rw [List.filter_cons]
    split
    · simp only [tot]
      omega
    · simp only [tot]
      omega
theorem tot_do {xs : List dFile} {o : dDOp} : tot (doF xs o).1 ≤ 2 * tot xs + o.2.2.2.1.size ∧ (doF xs o).1.length ≤ xs.length + 1 := by
  unfold doF
  split
  · have h := tot_put (nm := o.2.1) (data := if fnd o.2.1 xs 0 ≥ 0 then (List.getD xs (fnd o.2.1 xs 0).toNat tFile.dflt).2.1 ++ o.2.2.2.1 else o.2.2.2.1) (xs := xs) (d := false)
    refine ⟨Nat.le_trans h.1 ?_, h.2.1⟩
    split
    · rename_i h2
      have h3 := mem_tot (fnd_lt (nm := o.2.1) (xs := xs) (by omega)).2.2.1
      rw [ByteArray.size_append]
      omega
    · omega
  · split
    · exact ⟨by simp only; omega, by simp only; omega⟩
    · rename_i h2
      split
      · have h := tot_put (nm := o.2.2.1) (data := (List.getD xs (fnd o.2.1 xs 0).toNat tFile.dflt).2.1) (xs := cutF o.2.1 xs) (d := false)
        have h3 := mem_tot (fnd_lt h2).2.2.1
        have h4 := tot_cut (nm := o.2.1) (xs := xs)
        have h5 := cut_len (nm := o.2.1) (xs := xs)
        exact ⟨by simp only; omega, by simp only; omega⟩
      · have h4 := tot_cut (nm := o.2.1) (xs := xs)
        have h5 := cut_len (nm := o.2.1) (xs := xs)
        exact ⟨by simp only; omega, by simp only; omega⟩
theorem filesOk_small {xs : List dFile} (h : filesOk xs = true) : xs.length ≤ 60 ∧ tot xs ≤ 200000 := by
  simp only [filesOk, Bool.and_eq_true, decide_eq_true_eq] at h
  omega
def SmOps (l : List dDOp) : Prop := ∀ o ∈ l, o.2.2.2.1.size ≤ 1099511627776
theorem s28_loop {ops : List dDOp} {live : List dFile} (hn : ops.length ≤ 1099511627776) (ho : SmOps ops) (safe : List dFile) : ∀ (l pre : List dDOp) (now : List dFile), ops = pre ++ l → now.length ≤ 1099511627776 → tot now ≤ 1099511627776 →
    Ev (fun k => p28_5' k (pre.length : Int) live safe ops now) ((match runF now l with | some xs => decide (xs = live) | none => false, ()), ())
  | [], pre, now, he, h1, h2 => by
    refine Ev.eqn 19 (fun k => p28_5'_eq k (pre.length : Int) live safe ops now) ?_
    have he : ops = pre := by rw [he]; simp
    subst he
    simp only [Int.lt_irrefl, decide_false, Bool.false_eq_true, if_false, runF]
    refine Ev.bind (Ev.later (s71 h1) _) ?_
    exact Ev.now
  | o :: l, pre, now, he, h1, h2 => by
    refine Ev.eqn 19 (fun k => p28_5'_eq k (pre.length : Int) live safe ops now) ?_
    have hlt : ((pre.length : Nat) : Int) < (ops.length : Int) := by rw [he]; exact lt_len
    have hg : List.getD ops (Int.toNat (pre.length : Int)) tDOp.dflt = o := by rw [he]; exact getD_at
    have hoo := ho o (by rw [he]; simp)
    have hb := tot_do (xs := now) (o := o)
    simp only [hlt, nn, decide_true, if_true, hg, runF]
    refine Ev.bind (Ev.later (s69 h1 (by omega) (by omega)) _) ?_
    cases h3 : (doF now o).2 with
    | false =>
      simp only [Bool.not_false, if_true, Bool.false_and, Bool.false_eq_true, if_false]
      exact Ev.now
    | true =>
      simp only [Bool.not_true, Bool.false_eq_true, if_false, Bool.true_and]
      refine Ev.bind (Ev.later (s70 o) _) ?_
      cases h4 : formOk o with
      | false =>
        simp only [Bool.not_false, if_true, Bool.false_and, Bool.false_eq_true, if_false]
        exact Ev.now
      | true =>
        simp only [Bool.not_true, Bool.false_eq_true, if_false, Bool.true_and]
        refine Ev.bind (Ev.later (s68 (xs := (doF now o).1) (by omega) (by omega)) _) ?_
        cases h5 : filesOk (doF now o).1 with
        | false =>
          simp only [Bool.not_false, if_true, Bool.false_eq_true, if_false]
          exact Ev.now
        | true =>
          simp only [Bool.not_true, Bool.false_eq_true, if_false, if_true]
          rw [wr1 (y := o) (by omega) hn]
          exact Ev.later (s28_loop hn ho safe l (pre ++ [o]) (doF now o).1 (by rw [he]; simp) (by have := filesOk_small h5; omega) (by have := filesOk_small h5; omega)) 1
theorem s28 {d : dDisk'} (h1 : d.1.length ≤ 1099511627776) (h2 : d.2.1.length ≤ 1099511627776) (h3 : d.2.2.1.length ≤ 1099511627776) (t1 : tot d.1 ≤ 1099511627776) (t2 : tot d.2.1 ≤ 1099511627776) (ho : SmOps d.2.2.1) : Ev (fun k => c28 k d) ((okD d, ()), ()) := by
  refine Ev.eqn 17 (fun k => c28_eq k d) ?_
  unfold okD
  refine Ev.bind (Ev.later (s68 (by omega) (by omega)) _) ?_
  cases h4 : filesOk d.1 with
  | false =>
    simp only [Bool.not_false, if_true, Bool.false_and]
    exact Ev.now
  | true =>
    simp only [Bool.not_true, Bool.false_eq_true, if_false, Bool.true_and]
    refine Ev.bind (Ev.later (s68 (by omega) (by omega)) _) ?_
    cases h5 : filesOk d.2.1 with
    | false =>
      simp only [Bool.not_false, if_true, Bool.false_and]
      exact Ev.now
    | true =>
      simp only [Bool.not_true, Bool.false_eq_true, if_false, Bool.true_and]
      by_cases h6 : (d.2.2.1.length : Int) > 200
      · have h7 : ¬ (d.2.2.1.length : Int) ≤ 200 := by omega
        simp only [h6, h7, decide_true, if_true, decide_false, Bool.false_and]
        exact Ev.now
      · have h7 : (d.2.2.1.length : Int) ≤ 200 := by omega
        simp only [h6, h7, decide_true, Bool.true_and, decide_false, Bool.false_eq_true, if_false]
        refine Ev.later (f := fun k => p28_5 k d.2.1 0 d.1 d.2.1 d.2.2.1) ?_ 1
        -- the first round stands at a point of its own
        cases hops : d.2.2.1 with
        | nil =>
          refine Ev.eqn 19 (fun k => p28_5_eq k d.2.1 0 d.1 d.2.1 []) ?_
          simp only [List.length_nil, Int.natCast_zero, Int.lt_irrefl, decide_false, Bool.false_eq_true, if_false, runF]
          refine Ev.bind (Ev.later (s71 h2) _) ?_
          exact Ev.now
        | cons o l =>
          have e : (fun k => p28_5 k d.2.1 0 d.1 d.2.1 (o :: l)) = fun k => p28_5 k d.2.1 (([] : List dDOp).length : Int) d.1 d.2.1 (o :: l) := rfl
          refine Ev.eqn 19 (fun k => p28_5_eq k d.2.1 0 d.1 d.2.1 (o :: l)) ?_
          have hlt : (0 : Int) < ((o :: l).length : Int) := by simp only [List.length_cons]; omega
          have hg : List.getD (o :: l) (Int.toNat (0 : Int)) tDOp.dflt = o := rfl
          rw [hops] at ho h3
          have hoo := ho o (by simp)
          have hb := tot_do (xs := d.2.1) (o := o)
          simp only [hlt, Int.le_refl, decide_true, if_true, hg, runF]
          refine Ev.bind (Ev.later (s69 h2 (by omega) (by omega)) _) ?_
          cases h3' : (doF d.2.1 o).2 with
          | false =>
            simp only [Bool.not_false, if_true, Bool.false_and, Bool.false_eq_true, if_false]
            exact Ev.now
          | true =>
            simp only [Bool.not_true, Bool.false_eq_true, if_false, Bool.true_and]
            refine Ev.bind (Ev.later (s70 o) _) ?_
            cases h4' : formOk o with
            | false =>
              simp only [Bool.not_false, if_true, Bool.false_and, Bool.false_eq_true, if_false]
              exact Ev.now
            | true =>
              simp only [Bool.not_true, Bool.false_eq_true, if_false, Bool.true_and]
              refine Ev.bind (Ev.later (s68 (xs := (doF d.2.1 o).1) (by omega) (by omega)) _) ?_
              cases h5' : filesOk (doF d.2.1 o).1 with
              | false =>
                simp only [Bool.not_false, if_true, Bool.false_eq_true, if_false]
                exact Ev.now
              | true =>
                simp only [Bool.not_true, Bool.false_eq_true, if_false, if_true]
                have hw : IntKind.i64.wrap ((0 : Int) + 1) = (([o] : List dDOp).length : Int) := by rw [wr (by omega) (by omega)]; rfl
                rw [hw]
                exact Ev.later (s28_loop h3 ho d.2.1 l [o] (doF d.2.1 o).1 rfl (by have := filesOk_small h5'; omega) (by have := filesOk_small h5'; omega)) 1
end Go.Proofs.Ytcfnhfbaakflgaa.Abs
