/- Marks; FnExactSync says true. -/
import Derived.Test.YtcfnhfbaakflgaaAbsPDisk5
set_option linter.unusedVariables false
set_option linter.unusedSimpArgs false
namespace Go.Proofs.Ytcfnhfbaakflgaa.Abs
open Go

theorem mk_loop : ∀ (n : Nat) (x : Int) (out : ByteArray), x.toNat ≤ n → 0 ≤ x → x ≤ 1152921504606846976 → (out.size : Int) + x ≤ 2305843009213693952 → ∃ s, Ev (fun k => p56_4 k x out) ((s, ()), ())
  | n, x, out, hn, h0, h1, hs => by
    by_cases hx : x > 0
    · obtain ⟨m, rfl⟩ : ∃ m, n = m + 1 := ⟨n - 1, by omega⟩
      have hd : x.tdiv 10 = x / 10 := Int.tdiv_eq_ediv_of_nonneg h0
      have hsz : ∀ b : Int, ByteArray.size (strOfNums [b]) = 1 := fun b => rfl
      have hlt : x / 10 < x := by omega
      have h10 : 0 ≤ x / 10 := by omega
      obtain ⟨s, hs'⟩ := mk_loop m (x / 10) (strOfNums [IntKind.u8.wrap (IntKind.i64.wrap (48 + (Int.tmod x 10)))] ++ out) (by omega) h10 (by omega) (by rw [ByteArray.size_append, hsz]; omega)
      refine ⟨s, Ev.eqn 12 (fun k => p56_4_eq k x out) ?_⟩
      have hb : ByteArray.size (strOfNums [IntKind.u8.wrap (IntKind.i64.wrap (48 + (Int.tmod x 10)))]) + out.size ≤ 9223372036854775807 := by rw [hsz]; omega
      simp only [hx, decide_true, if_true, hb, hd]
      rw [wr (n := x / 10) (by omega) (by omega)]
      exact Ev.later hs' 1
    · refine ⟨(⟨#[109]⟩ : ByteArray) ++ out, Ev.eqn 12 (fun k => p56_4_eq k x out) ?_⟩
      have hb : ByteArray.size (⟨#[109]⟩ : ByteArray) + out.size ≤ 9223372036854775807 := by
        have : ByteArray.size (⟨#[109]⟩ : ByteArray) = 1 := rfl
        omega
      simp only [hx, decide_false, Bool.false_eq_true, if_false, hb, if_true]
      exact Ev.now
theorem mk_ex (x : Int) : ∃ s, (0 ≤ x → x ≤ 1152921504606846976 → Ev (fun k => c56 k x) ((s, ()), ())) := by
  by_cases h0 : 0 ≤ x
  · by_cases h1 : x ≤ 1152921504606846976
    · by_cases hx : x ≤ 0
      · refine ⟨(⟨#[109, 48]⟩ : ByteArray), fun _ _ => Ev.eqn 15 (fun k => c56_eq k x) ?_⟩
        simp only [hx, decide_true, if_true]
        exact Ev.now
      · obtain ⟨s, hs⟩ := mk_loop x.toNat x (⟨#[]⟩ : ByteArray) (Nat.le_refl _) h0 h1 (by have : ByteArray.size (⟨#[]⟩ : ByteArray) = 0 := rfl; omega)
        refine ⟨s, fun _ _ => Ev.eqn 15 (fun k => c56_eq k x) ?_⟩
        simp only [hx, decide_false, Bool.false_eq_true, if_false]
        exact Ev.later hs 1
    · exact ⟨⟨#[]⟩, fun _ h => absurd h h1⟩
  · exact ⟨⟨#[]⟩, fun h => absurd h h0⟩
noncomputable def mkT (x : Int) : ByteArray := Classical.choose (mk_ex x)
theorem s56 {x : Int} (h0 : 0 ≤ x) (h1 : x ≤ 1152921504606846976) : Ev (fun k => c56 k x) ((mkT x, ()), ()) := Classical.choose_spec (mk_ex x) h0 h1
/-- Marked files and operations. -/
noncomputable def mF : Int → Nat → List dFile
  | _, 0 => []
  | x, n + 1 => (mkT x, mkT (x + 1), ()) :: mF (x + 2) n
noncomputable def mO : Int → Nat → List dDOp
  | _, 0 => []
  | x, n + 1 => (x, mkT (x + 1), mkT (x + 2), mkT (x + 3), ()) :: mO (x + 4) n
theorem mF_len : ∀ (n : Nat) (x : Int), (mF x n).length = n
  | 0, _ => rfl
  | n + 1, x => by simp only [mF, List.length_cons, mF_len n]
theorem mO_len : ∀ (n : Nat) (x : Int), (mO x n).length = n
  | 0, _ => rfl
  | n + 1, x => by simp only [mO, List.length_cons, mO_len n]
theorem s87_loop : ∀ (n : Nat) (ys pre : List dFile) (x : Int), ys.length = n → 0 ≤ x → x + 2 * (n : Int) ≤ 1099511627776 → (pre.length : Int) + n ≤ 1099511627776 → Ev (fun k => p87_2 k x (pre.length : Int) (pre ++ ys)) ((x + 2 * (n : Int), ()), (pre ++ mF x n, ())) := by
  intro n
  induction n with
  | zero =>
    intro ys pre x hn h0 h1 h2
    have : ys = [] := List.eq_nil_of_length_eq_zero hn
    subst this
    rw [List.append_nil]
    refine Ev.eqn 18 (fun k => p87_2_eq k x (pre.length : Int) pre) ?_
    simp only [Int.lt_irrefl, decide_false, Bool.false_eq_true, if_false, Int.natCast_zero, Int.mul_zero, Int.add_zero, mF, List.append_nil]
    exact Ev.now
  | succ n ih =>
    intro ys pre x hn h0 h1 h2
    cases ys with
    | nil => simp at hn
    | cons y ys =>
      refine Ev.eqn 18 (fun k => p87_2_eq k x (pre.length : Int) (pre ++ y :: ys)) ?_
      have hn : ys.length = n := by simpa using hn
      have hlt : ∀ z : dFile, ((pre.length : Nat) : Int) < ((pre ++ z :: ys).length : Int) := fun z => lt_len
      have hg : ∀ z : dFile, List.getD (pre ++ z :: ys) (Int.toNat (pre.length : Int)) tFile.dflt = z := fun z => getD_at
      have hs : ∀ z z' : dFile, List.set (pre ++ z :: ys) (Int.toNat (pre.length : Int)) z' = pre ++ z' :: ys := fun z z' => set_at
      have hw : IntKind.i64.wrap (x + 1) = x + 1 := wr (by omega) (by omega)
      have hw2 : IntKind.i64.wrap (x + 1 + 1) = x + 2 := by rw [wr (by omega) (by omega)]; omega
      simp only [hlt, nn, decide_true, if_true, hw, hw2]
      refine Ev.bind (Ev.later (s56 (x := x) h0 (by omega)) _) ?_
      refine Ev.bind (Ev.later (s56 (x := x + 1) (by omega) (by omega)) _) ?_
      simp only [hg, hs, hlt, nn, if_true]
      rw [wr (n := (pre.length : Int) + 1) (by omega) (by omega), len_snoc (y := ((mkT x, mkT (x + 1), ()) : dFile))]
      have := ih ys (pre ++ [(mkT x, mkT (x + 1), ())]) (x + 2) hn (by omega) (by omega) (by rw [List.length_append, List.length_singleton]; omega)
      rw [List.append_assoc, List.append_assoc] at this
      have e : x + 2 + 2 * (n : Int) = x + 2 * ((n + 1 : Nat) : Int) := by omega
      rw [e] at this
      exact Ev.later this 1
theorem s87 {x : Int} {xs : List dFile} (h0 : 0 ≤ x) (h1 : x + 2 * (xs.length : Int) ≤ 1099511627776) : Ev (fun k => c87 k x xs) ((x + 2 * (xs.length : Int), ()), (mF x xs.length, ())) :=
  Ev.eqn 10 (fun k => c87_eq k x xs) (Ev.later (s87_loop xs.length xs [] x rfl h0 h1 (by simp only [List.length_nil]; omega)) 1)
theorem s88_loop : ∀ (n : Nat) (ys pre : List dDOp) (x : Int), ys.length = n → 0 ≤ x → x + 4 * (n : Int) ≤ 1099511627776 → (pre.length : Int) + n ≤ 1099511627776 → Ev (fun k => p88_2 k x (pre.length : Int) (pre ++ ys)) ((x + 4 * (n : Int), ()), (pre ++ mO x n, ())) := by
  intro n
  induction n with
  | zero =>
    intro ys pre x hn h0 h1 h2
    have : ys = [] := List.eq_nil_of_length_eq_zero hn
    subst this
    rw [List.append_nil]
    refine Ev.eqn 26 (fun k => p88_2_eq k x (pre.length : Int) pre) ?_
    simp only [Int.lt_irrefl, decide_false, Bool.false_eq_true, if_false, Int.natCast_zero, Int.mul_zero, Int.add_zero, mO, List.append_nil]
    exact Ev.now
  | succ n ih =>
    intro ys pre x hn h0 h1 h2
    cases ys with
    | nil => simp at hn
    | cons y ys =>
      refine Ev.eqn 26 (fun k => p88_2_eq k x (pre.length : Int) (pre ++ y :: ys)) ?_
      have hn : ys.length = n := by simpa using hn
      have hlt : ∀ z : dDOp, ((pre.length : Nat) : Int) < ((pre ++ z :: ys).length : Int) := fun z => lt_len
      have hg : ∀ z : dDOp, List.getD (pre ++ z :: ys) (Int.toNat (pre.length : Int)) tDOp.dflt = z := fun z => getD_at
      have hs : ∀ z z' : dDOp, List.set (pre ++ z :: ys) (Int.toNat (pre.length : Int)) z' = pre ++ z' :: ys := fun z z' => set_at
      have hw : IntKind.i64.wrap (x + 1) = x + 1 := wr (by omega) (by omega)
      have hw2 : IntKind.i64.wrap (x + 1 + 1) = x + 2 := by rw [wr (by omega) (by omega)]; omega
      have hw3 : IntKind.i64.wrap (x + 2 + 1) = x + 3 := by rw [wr (by omega) (by omega)]; omega
      have hw4 : IntKind.i64.wrap (x + 3 + 1) = x + 4 := by rw [wr (by omega) (by omega)]; omega
      simp only [hlt, nn, decide_true, if_true, hw, hw2, hw3, hw4, hg, hs]
      refine Ev.bind (Ev.later (s56 (x := x + 1) (by omega) (by omega)) _) ?_
      simp only [hg, hs, hlt, nn, if_true]
      refine Ev.bind (Ev.later (s56 (x := x + 2) (by omega) (by omega)) _) ?_
      simp only [hg, hs, hlt, nn, if_true]
      refine Ev.bind (Ev.later (s56 (x := x + 3) (by omega) (by omega)) _) ?_
      simp only [hg, hs, hlt, nn, if_true]
      rw [wr (n := (pre.length : Int) + 1) (by omega) (by omega), len_snoc (y := ((x, mkT (x + 1), mkT (x + 2), mkT (x + 3), ()) : dDOp))]
      have := ih ys (pre ++ [(x, mkT (x + 1), mkT (x + 2), mkT (x + 3), ())]) (x + 4) hn (by omega) (by omega) (by rw [List.length_append, List.length_singleton]; omega)
      rw [List.append_assoc, List.append_assoc] at this
      have e : x + 4 + 4 * (n : Int) = x + 4 * ((n + 1 : Nat) : Int) := by omega
      rw [e] at this
      exact Ev.later this 1
theorem s88 {x : Int} {xs : List dDOp} (h0 : 0 ≤ x) (h1 : x + 4 * (xs.length : Int) ≤ 1099511627776) : Ev (fun k => c88 k x xs) ((x + 4 * (xs.length : Int), ()), (mO x xs.length, ())) :=
  Ev.eqn 10 (fun k => c88_eq k x xs) (Ev.later (s88_loop xs.length xs [] x rfl h0 h1 (by simp only [List.length_nil]; omega)) 1)
theorem s89_loop {xs : List dFile} (hl : xs.length ≤ 1099511627776) : ∀ (n : Nat) (pre : List dFile) (x : Int), xs = pre ++ mF x n → 0 ≤ x → x + 2 * (n : Int) ≤ 1099511627776 → Ev (fun k => p89_2 k xs x (pre.length : Int)) ((x + 2 * (n : Int), ()), ())
  | 0, pre, x, he, h0, h1 => by
    refine Ev.eqn 24 (fun k => p89_2_eq k xs x (pre.length : Int)) ?_
    have he : xs = pre := by rw [he]; simp [mF]
    subst he
    simp only [Int.lt_irrefl, decide_false, Bool.false_eq_true, if_false, Int.natCast_zero, Int.mul_zero, Int.add_zero]
    exact Ev.now
  | n + 1, pre, x, he, h0, h1 => by
    refine Ev.eqn 24 (fun k => p89_2_eq k xs x (pre.length : Int)) ?_
    have hlt : ((pre.length : Nat) : Int) < (xs.length : Int) := by rw [he]; exact lt_len
    have hg : List.getD xs (Int.toNat (pre.length : Int)) tFile.dflt = (mkT x, mkT (x + 1), ()) := by rw [he]; exact getD_at
    have hw : IntKind.i64.wrap (x + 1) = x + 1 := wr (by omega) (by omega)
    have hw2 : IntKind.i64.wrap (x + 1 + 1) = x + 2 := by rw [wr (by omega) (by omega)]; omega
    simp only [hlt, nn, decide_true, if_true, hg, hw, hw2]
    refine Ev.bind (Ev.later (s56 (x := x) h0 (by omega)) _) ?_
    simp only [beq_self_eq_true, Bool.not_true, Bool.false_eq_true, if_false]
    refine Ev.bind (Ev.later (s56 (x := x + 1) (by omega) (by omega)) _) ?_
    simp only [beq_self_eq_true, Bool.not_true, Bool.false_eq_true, if_false]
    rw [wr1 (y := ((mkT x, mkT (x + 1), ()) : dFile)) (by omega) hl]
    have := s89_loop hl n (pre ++ [(mkT x, mkT (x + 1), ())]) (x + 2) (by rw [he]; simp [mF]) (by omega) (by omega)
    have e : x + 2 + 2 * (n : Int) = x + 2 * ((n + 1 : Nat) : Int) := by omega
    rw [e] at this
    exact Ev.later this 1
theorem s89 {n : Nat} {x : Int} (h0 : 0 ≤ x) (h1 : x + 2 * (n : Int) ≤ 1099511627776) : Ev (fun k => c89 k (mF x n) x) ((x + 2 * (n : Int), ()), ()) :=
  have hl : (mF x n).length ≤ 1099511627776 := by rw [mF_len]; omega
  Ev.eqn 10 (fun k => c89_eq k (mF x n) x) (Ev.later (s89_loop hl n [] x rfl h0 h1) 1)
theorem s90_loop {xs : List dDOp} (hl : xs.length ≤ 1099511627776) : ∀ (n : Nat) (pre : List dDOp) (x : Int), xs = pre ++ mO x n → 0 ≤ x → x + 4 * (n : Int) ≤ 1099511627776 → Ev (fun k => p90_2 k xs x (pre.length : Int)) ((x + 4 * (n : Int), ()), ())
  | 0, pre, x, he, h0, h1 => by
    refine Ev.eqn 38 (fun k => p90_2_eq k xs x (pre.length : Int)) ?_
    have he : xs = pre := by rw [he]; simp [mO]
    subst he
    simp only [Int.lt_irrefl, decide_false, Bool.false_eq_true, if_false, Int.natCast_zero, Int.mul_zero, Int.add_zero]
    exact Ev.now
  | n + 1, pre, x, he, h0, h1 => by
    refine Ev.eqn 38 (fun k => p90_2_eq k xs x (pre.length : Int)) ?_
    have hlt : ((pre.length : Nat) : Int) < (xs.length : Int) := by rw [he]; exact lt_len
    have hg : List.getD xs (Int.toNat (pre.length : Int)) tDOp.dflt = (x, mkT (x + 1), mkT (x + 2), mkT (x + 3), ()) := by rw [he]; exact getD_at
    have hw : IntKind.i64.wrap (x + 1) = x + 1 := wr (by omega) (by omega)
    have hw2 : IntKind.i64.wrap (x + 1 + 1) = x + 2 := by rw [wr (by omega) (by omega)]; omega
    have hw3 : IntKind.i64.wrap (x + 2 + 1) = x + 3 := by rw [wr (by omega) (by omega)]; omega
    have hw4 : IntKind.i64.wrap (x + 3 + 1) = x + 4 := by rw [wr (by omega) (by omega)]; omega
    simp only [hlt, nn, decide_true, if_true, hg, hw, hw2, hw3, hw4, bne_self_eq_false, Bool.false_eq_true, if_false]
    refine Ev.bind (Ev.later (s56 (x := x + 1) (by omega) (by omega)) _) ?_
    simp only [beq_self_eq_true, Bool.not_true, Bool.false_eq_true, if_false]
    refine Ev.bind (Ev.later (s56 (x := x + 2) (by omega) (by omega)) _) ?_
    simp only [beq_self_eq_true, Bool.not_true, Bool.false_eq_true, if_false]
    refine Ev.bind (Ev.later (s56 (x := x + 3) (by omega) (by omega)) _) ?_
    simp only [beq_self_eq_true, Bool.not_true, Bool.false_eq_true, if_false]
    rw [wr1 (y := ((x, mkT (x + 1), mkT (x + 2), mkT (x + 3), ()) : dDOp)) (by omega) hl]
    have := s90_loop hl n (pre ++ [(x, mkT (x + 1), mkT (x + 2), mkT (x + 3), ())]) (x + 4) (by rw [he]; simp [mO]) (by omega) (by omega)
    have e : x + 4 + 4 * (n : Int) = x + 4 * ((n + 1 : Nat) : Int) := by omega
    rw [e] at this
    exact Ev.later this 1
theorem s90 {n : Nat} {x : Int} (h0 : 0 ≤ x) (h1 : x + 4 * (n : Int) ≤ 1099511627776) : Ev (fun k => c90 k (mO x n) x) ((x + 4 * (n : Int), ()), ()) :=
  have hl : (mO x n).length ≤ 1099511627776 := by rw [mO_len]; omega
  Ev.eqn 10 (fun k => c90_eq k (mO x n) x) (Ev.later (s90_loop hl n [] x rfl h0 h1) 1)
/-- How far the marks of a disk go. -/
def mEnd (a b c : Nat) : Int := 1 + 2 * (a : Int) + 2 * (b : Int) + 4 * (c : Int)
noncomputable def mD (a b c : Nat) : dDisk' := (mF 1 a, mF (1 + 2 * (a : Int)) b, mO (1 + 2 * (a : Int) + 2 * (b : Int)) c, ())
theorem s41 {xs ys : List dFile} {zs : List dDOp} (h1 : xs.length ≤ 1073741824) (h2 : ys.length ≤ 1073741824) (h3 : zs.length ≤ 1073741824) : Ev (fun k => c41 k 1 xs ys zs) ((mEnd xs.length ys.length zs.length, ()), ((mD xs.length ys.length zs.length).1, (mD xs.length ys.length zs.length).2.1, (mD xs.length ys.length zs.length).2.2.1, ())) := by
  refine Ev.eqn 11 (fun k => c41_eq k 1 xs ys zs) ?_
  refine Ev.bind (Ev.later (s87 (x := 1) (xs := xs) (by omega) (by omega)) _) ?_
  refine Ev.bind (Ev.later (s87 (x := 1 + 2 * (xs.length : Int)) (xs := ys) (by omega) (by omega)) _) ?_
  refine Ev.bind (Ev.later (s88 (x := 1 + 2 * (xs.length : Int) + 2 * (ys.length : Int)) (xs := zs) (by omega) (by omega)) _) ?_
  exact Ev.now
theorem s42 {a b c : Nat} (h1 : a ≤ 1073741824) (h2 : b ≤ 1073741824) (h3 : c ≤ 1073741824) : Ev (fun k => c42 k ((mD a b c).1, (mD a b c).2.1, (mD a b c).2.2.1, ()) 1) ((mEnd a b c, ()), ()) := by
  refine Ev.eqn 26 (fun k => c42_eq k ((mD a b c).1, (mD a b c).2.1, (mD a b c).2.2.1, ()) 1) ?_
  refine Ev.bind (Ev.later (s89 (n := a) (x := 1) (by omega) (by omega)) _) ?_
  have n1 : ¬ 1 + 2 * (a : Int) < 0 := by omega
  simp only [n1, decide_false, Bool.false_eq_true, if_false]
  refine Ev.bind (Ev.later (s89 (n := b) (x := 1 + 2 * (a : Int)) (by omega) (by omega)) _) ?_
  have n2 : ¬ 1 + 2 * (a : Int) + 2 * (b : Int) < 0 := by omega
  simp only [n2, decide_false, Bool.false_eq_true, if_false]
  refine Ev.bind (Ev.later (s90 (n := c) (x := 1 + 2 * (a : Int) + 2 * (b : Int)) (by omega) (by omega)) _) ?_
  have n3 : ¬ 1 + 2 * (a : Int) + 2 * (b : Int) + 4 * (c : Int) < 0 := by omega
  simp only [n3, decide_false, Bool.false_eq_true, if_false]
  exact Ev.now
theorem mEnd_pos (a b c : Nat) : ¬ mEnd a b c < 0 := by
  unfold mEnd
  omega
/-! ### Sync -/
theorem c108_eq (k : Nat) (xs : List dDOp) : c108 k xs = if xs.length * 56 ≤ 140737488355328 then some ((xs, ()), ()) else none := by kernel_rfl
theorem s108 {xs : List dDOp} (hl : xs.length ≤ 1048576) : Ev (fun k => c108 k xs) ((xs, ()), ()) := ⟨0, fun k _ => by
  show c108 k xs = _
  rw [c108_eq, if_pos (mul56 hl)]⟩
def syncD (d : dDisk') : dDisk' := if okD d = true then (d.1, d.1, [], ()) else ([], [], [], ())
theorem s40 {d : dDisk'} (h : Fit d) (h1 : d.1.length ≤ 1048576) : Ev (fun k => c40 k d) ((((syncD d).1, (syncD d).2.1, (syncD d).2.2.1, ()), ()), ()) := by
  refine Ev.eqn 10 (fun k => c40_eq k d) ?_
  refine Ev.bind (Ev.later (s28 (d := (d.1, d.2.1, d.2.2.1, ())) h.h1 (Nat.le_succ_of_le h.h2) h.h3 h.t1 h.t2 h.ho) _) ?_
  have e : ((d.1, d.2.1, d.2.2.1, ()) : dDisk') = d := rfl
  simp only [e]
  unfold syncD
  cases okD d with
  | false =>
    simp only [Bool.not_false, if_true, Bool.false_eq_true, if_false]
    exact Ev.now
  | true =>
    have hb : (List.length ([] : List dFile) + d.1.length) * 32 ≤ 140737488355328 := mul32 (by simp only [List.length_nil]; omega)
    simp only [Bool.not_true, Bool.false_eq_true, if_false, if_true, hb, List.nil_append]
    exact Ev.now
theorem s73 {d : dDisk'} (h1 : d.1.length ≤ 1048576) (h2 : d.2.1.length ≤ 1048576) (h3 : d.2.2.1.length ≤ 1048576) : Ev (fun k => c73 k d) (((d.1, d.2.1, d.2.2.1, ()), ()), ()) := by
  refine Ev.eqn 5 (fun k => c73_eq k d) ?_
  refine Ev.bind (Ev.later (s107 (xs := d.1) (by omega)) _) ?_
  refine Ev.bind (Ev.later (s107 (xs := d.2.1) (by omega)) _) ?_
  refine Ev.bind (Ev.later (s108 h3) _) ?_
  exact Ev.now
theorem s74 {xs ys : List dFile} {zs : List dDOp} (h1 : xs.length ≤ 1048576) : Ev (fun k => c74 k xs ys zs) ((), ((xs, xs, [], ()), ())) := by
  refine Ev.eqn 1 (fun k => c74_eq k xs ys zs) ?_
  refine Ev.bind (s107 (xs := xs) (by omega)) ?_
  exact Ev.now
theorem s30 {d : dDisk'} (h : Fit d) (h1 : d.1.length ≤ 1048576) (h2 : d.2.1.length ≤ 1048576) (h3 : d.2.2.1.length ≤ 1048576) : Ev (fun k => c30 k d) ((((syncD d).1, (syncD d).2.1, (syncD d).2.2.1, ()), ()), ()) := by
  refine Ev.eqn 14 (fun k => c30_eq k d) ?_
  refine Ev.bind (Ev.later (s27 (d := (d.1, d.2.1, d.2.2.1, ())) h.h1 h.h2 h.h3 h.t1 h.t2 h.ho) _) ?_
  have e : ((d.1, d.2.1, d.2.2.1, ()) : dDisk') = d := rfl
  simp only [e]
  unfold syncD
  cases okD d with
  | false =>
    simp only [Bool.not_false, if_true, Bool.false_eq_true, if_false]
    exact Ev.now
  | true =>
    simp only [Bool.not_true, Bool.false_eq_true, if_false, if_true]
    refine Ev.bind (Ev.later (s73 h1 h2 h3) _) ?_
    refine Ev.bind (Ev.later (s74 h1) _) ?_
    exact Ev.now
theorem sync_len {d : dDisk'} {n : Nat} (h1 : d.1.length ≤ n) : (syncD d).1.length ≤ n ∧ (syncD d).2.1.length ≤ n ∧ (syncD d).2.2.1.length ≤ n := by
  unfold syncD
  split
  · exact ⟨h1, h1, Nat.zero_le _⟩
  · exact ⟨Nat.zero_le _, Nat.zero_le _, Nat.zero_le _⟩
theorem s34s {a : dDisk'} (h1 : a.1.length ≤ 1048576) (h2 : a.2.1.length ≤ 1048576) (h3 : a.2.2.1.length ≤ 1048576) : Ev (fun k => c34 k (a.1, a.2.1, a.2.2.1, ()) (a.1, a.2.1, a.2.2.1, ())) ((true, ()), ()) := by
  have := s34 (a := (a.1, a.2.1, a.2.2.1, ())) (b := (a.1, a.2.1, a.2.2.1, ())) (by simp only; omega) (by simp only; omega) (by simp only; omega)
  simpa using this
theorem s10 {d : dDisk} (hd : SmD d) : Ev (fun k => c10 k d) ((true, ()), ()) := by
  refine Ev.eqn 78 (fun k => c10_eq k d) ?_
  have e : ((d.1, d.2.1, d.2.2.1, ()) : dDisk) = d := rfl
  simp only [e]
  refine Ev.bind (Ev.later (s32 hd (by decide) (by decide)) _) ?_
  simp only [decide_eq_true_eq]
  by_cases hn : szD d 1048576 < 0
  · simp only [hn, if_true]
    exact Ev.now
  obtain ⟨hf, l1, l2, l3⟩ := szD_fit hn
  have c33 := s33 (d := d) (mul32 (by omega)) (mul32 (by omega)) (mul56 l3)
  have hS := s30 hf l1 l2 l3
  obtain ⟨n1, n2, n3⟩ := sync_len (d := (d.1, d.2.1, d.2.2.1, ())) l1
  have hEq := s34s n1 n2 n3
  have hEd := s34s (a := (d.1, d.2.1, d.2.2.1, ())) l1 l2 l3
  simp only [hn, if_false]
  refine Ev.bind (Ev.later c33 _) ?_
  refine Ev.bind (Ev.later (s40 hf l1) _) ?_
  refine Ev.bind (Ev.later c33 _) ?_
  refine Ev.bind (Ev.later hS _) ?_
  refine Ev.bind (Ev.later hEq _) ?_
  simp only [Bool.not_true, Bool.false_eq_true, if_false]
  refine Ev.bind (Ev.later c33 _) ?_
  refine Ev.bind (Ev.later hEd _) ?_
  simp only [Bool.not_true, Bool.false_eq_true, if_false]
  refine Ev.bind (Ev.later (s41 (by omega) (by omega) (by omega)) _) ?_
  simp only [mEnd_pos, if_false]
  refine Ev.bind (Ev.later hEq _) ?_
  simp only [Bool.not_true, Bool.false_eq_true, if_false]
  refine Ev.bind (Ev.later (s41 (by omega) (by omega) (by omega)) _) ?_
  refine Ev.bind (Ev.later (s42 (by omega) (by omega) (by omega)) _) ?_
  simp only [mEnd_pos, if_false, bne_self_eq_false, Bool.false_eq_true]
  refine Ev.bind (Ev.later c33 _) ?_
  refine Ev.bind (Ev.later hS _) ?_
  refine Ev.bind (Ev.later hEq _) ?_
  simp only [Bool.not_true, Bool.false_eq_true, if_false]
  refine Ev.bind (Ev.later (s42 (by omega) (by omega) (by omega)) _) ?_
  simp only [mEnd_pos, if_false, bne_self_eq_false, Bool.false_eq_true]
  exact Ev.now
end Go.Proofs.Ytcfnhfbaakflgaa.Abs
