/- FnCrashed says true. -/
import Derived.Test.YtcfnhfbaakflgaaAbsPDisk7
import Derived.Test.YtcfnhfbaakflgaaAbsPDisk9
import Derived.Test.YtcfnhfbaakflgaaAbsGlue
set_option linter.unusedVariables false
set_option linter.unusedSimpArgs false
namespace Go.Proofs.Ytcfnhfbaakflgaa.Abs
open Go

theorem s22 (x : List Int) : Ev (fun k => c22 k x) ((decide ((x.length : Int) > 1048576), ()), ()) := Ev.eqn 5 (fun k => c22_eq k x) Ev.now
theorem s31_loop {xs zs : List dFile} (hl : xs.length ≤ 1099511627776) (hz : zs.length = xs.length) : ∀ (ys ws pre qre : List dFile), xs = pre ++ ys → zs = qre ++ ws → qre.length = pre.length → Ev (fun k => p31_4 k xs zs (pre.length : Int)) ((decide (ys = ws), ()), ())
  | [], ws, pre, qre, he, he', hp => by
    refine Ev.eqn 15 (fun k => p31_4_eq k xs zs (pre.length : Int)) ?_
    have hw : ws = [] := by
      rw [he, he'] at hz
      simp only [List.length_append, List.length_nil] at hz
      exact List.eq_nil_of_length_eq_zero (by omega)
    have he : xs = pre := by rw [he]; simp
    subst he
    subst hw
    simp only [Int.lt_irrefl, decide_false, Bool.false_eq_true, if_false, decide_true]
    exact Ev.now
  | y :: ys, [], pre, qre, he, he', hp => by
    rw [he, he'] at hz
    simp only [List.length_append, List.length_nil, List.length_cons] at hz
    omega
  | y :: ys, w :: ws, pre, qre, he, he', hp => by
    refine Ev.eqn 15 (fun k => p31_4_eq k xs zs (pre.length : Int)) ?_
    have hlt : ((pre.length : Nat) : Int) < (xs.length : Int) := by rw [he]; exact lt_len
    have hlt2 : ((pre.length : Nat) : Int) < (zs.length : Int) := by rw [hz]; exact hlt
    have hg : List.getD xs (Int.toNat (pre.length : Int)) tFile.dflt = y := by rw [he]; exact getD_at
    have hg2 : List.getD zs (Int.toNat (pre.length : Int)) tFile.dflt = w := by rw [he', ← hp]; exact getD_at
    simp only [hlt, hlt2, nn, decide_true, if_true, hg, hg2, eqB_file]
    by_cases h : y = w
    · subst h
      simp only [decide_true, Bool.not_true, Bool.false_eq_true, if_false, List.cons.injEq, true_and]
      rw [wr1 (y := y) (by omega) hl]
      exact Ev.later (s31_loop hl hz ys ws (pre ++ [y]) (qre ++ [y]) (by rw [he]; simp) (by rw [he']; simp) (by simp [hp])) 1
    · simp only [h, decide_false, Bool.not_false, if_true, List.cons.injEq, false_and]
      exact Ev.now
theorem s31 {xs zs : List dFile} (hl : xs.length ≤ 1099511627776) : Ev (fun k => c31 k xs zs) ((decide (xs = zs), ()), ()) := by
  refine Ev.eqn 15 (fun k => c31_eq k xs zs) ?_
  by_cases h : (xs.length : Int) = (zs.length : Int)
  · have hz : zs.length = xs.length := by omega
    simp only [h, bne_self_eq_false, Bool.false_eq_true, if_false]
    exact Ev.later (s31_loop hl hz xs zs [] [] rfl rfl rfl) 1
  · have h2 : xs ≠ zs := fun e => h (by rw [e])
    have h3 : ((xs.length : Int) != (zs.length : Int)) = true := by simpa using h
    simp only [h3, h2, if_true, decide_false]
    exact Ev.now
theorem s31s {xs : List dFile} (hl : xs.length ≤ 1099511627776) : Ev (fun k => c31 k xs xs) ((true, ()), ()) := by
  have := s31 (xs := xs) (zs := xs) hl
  simpa using this
/-! ### All that was done is kept -/
def upI : Nat → Nat → List Int
  | _, 0 => []
  | a, n + 1 => (a : Int) :: upI (a + 1) n
theorem upI_len : ∀ (n a : Nat), (upI a n).length = n
  | 0, _ => rfl
  | n + 1, a => by simp only [upI, List.length_cons, upI_len n]
theorem upI_snoc : ∀ (n a : Nat), upI a (n + 1) = upI a n ++ [((a + n : Nat) : Int)]
  | 0, a => rfl
  | n + 1, a => by
    show (a : Int) :: upI (a + 1) (n + 1) = (a : Int) :: (upI (a + 1) n ++ _)
    rw [upI_snoc n (a + 1), show a + 1 + n = a + (n + 1) by omega]
theorem okK_up : ∀ (n a N : Nat) (b : Int), a + n ≤ N → b < (a : Int) → okK (N : Int) b (upI a n) = true
  | 0, a, N, b, h, hb => rfl
  | n + 1, a, N, b, h, hb => by
    have h1 : ¬ (a : Int) ≤ b := by omega
    have h2 : (a : Int) < (N : Int) := by omega
    simp only [upI, okK, h1, h2, decide_false, decide_true, Bool.not_false, Bool.true_and]
    exact okK_up n (a + 1) N a (by omega) (by omega)
theorem opAt_at {pre l : List dDOp} {o : dDOp} : opAt (pre ++ o :: l) (pre.length : Int) = o := getD_at
theorem cut_all {o : dDOp} {torn : Int} (h : (o.2.2.2.1.size : Int) ≤ torn) : cutOp o torn = o := by
  have : (if torn < (o.2.2.2.1.size : Int) then torn else (o.2.2.2.1.size : Int)) = (o.2.2.2.1.size : Int) := by split <;> omega
  unfold cutOp
  rw [this, Int.toNat_natCast, extract_all]
theorem runK_all {ops : List dDOp} {torn : Int} : ∀ (l pre : List dDOp) (xs ys : List dFile), ops = pre ++ l → (∀ o ∈ l, (o.2.2.2.1.size : Int) ≤ torn) → runF xs l = some ys → runK ops torn (upI pre.length l.length) xs = ys
  | [], pre, xs, ys, he, hs, h => by
    cases h
    rfl
  | [o], pre, xs, ys, he, hs, h => by
    have e1 : upI pre.length [o].length = [(pre.length : Int)] := rfl
    have e2 : opAt ops (pre.length : Int) = o := by rw [he]; exact opAt_at
    rw [e1]
    show (doF xs (cutOp (opAt ops (pre.length : Int)) torn)).1 = ys
    rw [e2, cut_all (hs o (by simp))]
    unfold runF at h
    split at h
    · cases h
      rfl
    · cases h
  | o :: o' :: l, pre, xs, ys, he, hs, h => by
    have e1 : upI pre.length (o :: o' :: l).length = (pre.length : Int) :: ((pre.length + 1 : Nat) : Int) :: upI (pre.length + 1 + 1) l.length := rfl
    have e2 : opAt ops (pre.length : Int) = o := by rw [he]; exact opAt_at
    rw [e1]
    show runK ops torn (((pre.length + 1 : Nat) : Int) :: upI (pre.length + 1 + 1) l.length) (doF xs (opAt ops (pre.length : Int))).1 = ys
    rw [e2]
    unfold runF at h
    split at h
    · have := runK_all (ops := ops) (torn := torn) (o' :: l) (pre ++ [o]) (doF xs o).1 ys (by rw [he]; simp) (fun p hp => hs p (List.mem_cons_of_mem _ hp)) h
      rw [List.length_append, List.length_singleton] at this
      exact this
    · cases h
theorem crash_all {d : dDisk'} (h : okD d = true) (ho : SmOps d.2.2.1) : crashD d (upI 0 d.2.2.1.length) 1099511627776 = ((d.1, d.1, [], ()), true) := by
  obtain ⟨h1, h2, h3, h4⟩ := okD_iff.1 h
  have hr := runK_all (ops := d.2.2.1) (torn := 1099511627776) d.2.2.1 [] d.2.1 d.1 rfl (fun o h => by have := ho o h; omega) h4
  have hr : runK d.2.2.1 1099511627776 (upI 0 d.2.2.1.length) d.2.1 = d.1 := hr
  have hk := okK_up d.2.2.1.length 0 d.2.2.1.length (-1) (by omega) (by omega)
  unfold crashD
  rw [hr, if_pos ⟨h, by decide, hk, h1⟩]
theorem crash_none {d : dDisk'} (h : okD d = true) : crashD d [] 0 = ((d.2.1, d.2.1, [], ()), true) := by
  obtain ⟨h1, h2, h3, h4⟩ := okD_iff.1 h
  unfold crashD
  exact if_pos ⟨h, by decide, rfl, h2⟩
theorem crash_not {d : dDisk'} (h : okD d = false) (keep : List Int) (torn : Int) : crashD d keep torn = (([], [], [], ()), false) := by
  unfold crashD
  rw [if_neg (by simp [h])]
/-- The law behind its loop. -/
theorem p6_end {d : dDisk'} (h : Drw d) : Ev (fun k => p6_8 k (d.2.2.1.length : Int) d.1 d.2.1 d.2.2.1 (upI 0 d.2.2.1.length)) ((true, ()), ()) := by
  have ed : ((d.1, d.2.1, d.2.2.1, ()) : dDisk') = d := rfl
  have hl1 := h.l1
  have hl2 := h.l2
  have hl3 := h.l3
  refine Ev.eqn 23 (fun k => p6_8_eq k (d.2.2.1.length : Int) d.1 d.2.1 d.2.2.1 (upI 0 d.2.2.1.length)) ?_
  simp only [Int.lt_irrefl, decide_false, Bool.false_eq_true, if_false, ed]
  refine Ev.bind (Ev.later (s29 h.fit (keep := upI 0 d.2.2.1.length) (torn := 1099511627776) (by rw [upI_len]; omega)) _) ?_
  refine Ev.bind (Ev.later (s29 h.fit (keep := []) (torn := 0) (Nat.zero_le _)) _) ?_
  have f := h.fit
  refine Ev.bind (Ev.later (s27 (d := d) f.h1 f.h2 f.h3 f.t1 f.t2 f.ho) _) ?_
  cases hk : okD d with
  | false =>
    simp only [crash_not hk, beq_self_eq_true, Bool.not_true, Bool.not_false, Bool.false_eq_true, if_false, if_true, List.length_nil, Int.natCast_zero]
    exact Ev.now
  | true =>
    simp only [crash_all hk f.ho, crash_none hk, beq_self_eq_true, Bool.not_true, Bool.false_eq_true, if_false]
    refine Ev.bind (Ev.later (s30 h.fit (by omega) (by omega) (by omega)) _) ?_
    have hs : syncD d = (d.1, d.1, [], ()) := by unfold syncD; rw [if_pos hk]
    simp only [hs]
    refine Ev.bind (Ev.later (s31s (xs := d.1) (by omega)) _) ?_
    simp only [if_true]
    refine Ev.bind (Ev.later (s31s (xs := d.1) (by omega)) _) ?_
    simp only [if_true]
    refine Ev.bind (Ev.later (s31s (xs := d.2.1) (by omega)) _) ?_
    have hw : IntKind.i64.wrap ((List.length ([] : List dDOp) : Int) + (List.length ([] : List dDOp) : Int)) = 0 := by decide
    simp only [if_true, hw, beq_self_eq_true]
    refine Ev.bind (Ev.later (s31s (xs := d.1) (by omega)) _) ?_
    simp only [if_true, List.length_nil, Int.natCast_zero, beq_self_eq_true]
    exact Ev.now
theorem p6_loop {d : dDisk'} (h : Drw d) : ∀ (n i : Nat), i + n = d.2.2.1.length → Ev (fun k => p6_8 k (i : Int) d.1 d.2.1 d.2.2.1 (upI 0 i)) ((true, ()), ()) := by
  have hl3 := h.l3
  intro n
  induction n with
  | zero =>
    intro i hi
    have : i = d.2.2.1.length := by omega
    subst this
    exact p6_end h
  | succ n ih =>
    intro i hi
    refine Ev.eqn 23 (fun k => p6_8_eq k (i : Int) d.1 d.2.1 d.2.2.1 (upI 0 i)) ?_
    have hlt : (i : Int) < (d.2.2.1.length : Int) := by omega
    have hb : (List.length (upI 0 i) + List.length ([(i : Int)])) * 8 ≤ 140737488355328 := mul8 (by rw [upI_len, List.length_singleton]; omega)
    have hw : IntKind.i64.wrap ((i : Int) + 1) = ((i + 1 : Nat) : Int) := by rw [wr (by omega) (by omega)]; omega
    have hs : upI 0 i ++ [(i : Int)] = upI 0 (i + 1) := by rw [upI_snoc, Nat.zero_add]
    simp only [hlt, decide_true, if_true, hb, hw, hs]
    exact Ev.later (ih (i + 1) (by omega)) _
theorem s6 {x : List Int} (he : ∀ b ∈ x, 0 ≤ b ∧ b ≤ 255) : Ev (fun k => c6 k x) ((true, ()), ()) := by
  refine Ev.eqn 24 (fun k => c6_eq k x) ?_
  refine Ev.bind (Ev.later (s22 x) _) ?_
  by_cases hb : (x.length : Int) > 1048576
  · simp only [hb, decide_true, if_true]
    exact Ev.now
  · obtain ⟨d, e1, k1⟩ := s26 (x := x) (by omega) he
    have f := k1.fit
    have ed : ((d.1, d.2.1, d.2.2.1, ()) : dDisk') = d := rfl
    simp only [hb, decide_false, Bool.false_eq_true, if_false]
    refine Ev.bind (Ev.later e1 _) ?_
    simp only [ed]
    refine Ev.bind (Ev.later (s27 (d := d) f.h1 f.h2 f.h3 f.t1 f.t2 f.ho) _) ?_
    refine Ev.bind (Ev.later (s28 (d := d) f.h1 (Nat.le_succ_of_le f.h2) f.h3 f.t1 f.t2 f.ho) _) ?_
    simp only [beq_self_eq_true, Bool.not_true, Bool.false_eq_true, if_false]
    exact Ev.later (p6_loop k1 d.2.2.1.length 0 (by omega)) 1
/-- Bytes: from the data. -/
theorem u8_of {e : TypeId} {xs : List Int} (h : SmT (.slice e (.int .u8)) xs) : ∀ b ∈ xs, 0 ≤ b ∧ b ≤ 255 := by
  intro b hb
  have := h.2 b hb
  have : (Lit.int .u8 b).wf = true := this
  unfold Lit.wf at this
  simp only [Bool.and_eq_true, decide_eq_true_eq] at this
  exact this
end Go.Proofs.Ytcfnhfbaakflgaa.Abs
