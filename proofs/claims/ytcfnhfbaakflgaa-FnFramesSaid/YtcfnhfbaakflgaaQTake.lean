/- TakeFrames of the program and of the reference come to the same frames and the same end, for every text of at most 2^22 bytes. -/
import Derived.Test.YtcfnhfbaakflgaaQFrame
import Derived.Test.YtcfnhfbaakflgaaPFramesx2
import Derived.Test.YtcfnhfbaakflgaaPFramesx3
namespace Go.Proofs.Ytcfnhfbaakflgaa.Pure
open Go.RowKit Go.Proofs.Ytcfnhfbaakflgaa.PFrames Go.Proofs.YtcfnhfbaakflgaaW.PrintWords Go.Proofs.YtcfnhfbaakflgaaW.PrintLast

/-- A byte as a natural number. -/
def bn (s : ByteArray) (i : Nat) : Nat := (bt s (i : Int)).toNat
theorem bn_eq (s : ByteArray) (i : Nat) : bt s (i : Int) = ((bn s i : Nat) : Int) := by
  have := bt_range s i
  unfold bn
  omega
theorem bn_lt (s : ByteArray) (i : Nat) : bn s i < 256 := by
  have := bt_range s i
  unfold bn
  omega
def hdr (s : ByteArray) (p : Nat) : Nat := 256 * (256 * (256 * bn s p + bn s (p + 1)) + bn s (p + 2)) + bn s (p + 3)
def dataAt (s : ByteArray) (p : Nat) : ByteArray := s.extract (p + 8) (p + 8 + hdr s p)
/-- Is there a frame at place p? -/
def isFrame (s : ByteArray) (p : Nat) : Prop :=
  p + 8 ≤ s.size ∧ hdr s p ≤ 1000000 ∧ p + 8 + hdr s p ≤ s.size ∧ (fourB ((crcOf (dataAt s p) : Nat) : Int)).toList = (s.extract (p + 4) (p + 8)).toList
instance (s : ByteArray) (p : Nat) : Decidable (isFrame s p) := by unfold isFrame; infer_instance
def takes : Nat → ByteArray → Nat → List ByteArray × Nat
  | 0, _, p => ([], p)
  | d + 1, s, p => if isFrame s p then (dataAt s p :: (takes d s (p + 8 + hdr s p)).1, (takes d s (p + 8 + hdr s p)).2) else ([], p)
theorem takes_yes {d : Nat} {s : ByteArray} {p : Nat} (h : isFrame s p) : takes (d + 1) s p = (dataAt s p :: (takes d s (p + 8 + hdr s p)).1, (takes d s (p + 8 + hdr s p)).2) := by
  rw [takes, if_pos h]
theorem takes_no {d : Nat} {s : ByteArray} {p : Nat} (h : ¬ isFrame s p) : takes (d + 1) s p = ([], p) := by
  rw [takes, if_neg h]

theorem spec_step (s : ByteArray) (hs : s.size ≤ 4194304) (acc : List ByteArray) (p n i : Nat) (h8 : p + 8 ≤ s.size) (hn : n < 16777216) (hi : i < 4) (r : List ByteArray × Int)
    (h : Ev (fun k => spec_TakeFrames.l1 k s acc (p : Int) ((256 * n + bn s (p + i) : Nat) : Int) ((i + 1 : Nat) : Int)) r) :
    Ev (fun k => spec_TakeFrames.l1 k s acc (p : Int) (n : Int) (i : Int)) r := by
  have hb := bn_lt s (p + i)
  refine Ev.step (fun k => ?_) h
  have e : wrap64 ((p : Int) + (i : Int)) = ((p + i : Nat) : Int) := by rw [w64 (by omega) (by omega)]; omega
  have e1 : wrap64 (256 * (n : Int)) = ((256 * n : Nat) : Int) := by rw [w64 (by omega) (by omega)]; omega
  have e2 : wrap64 (bn s (p + i) : Int) = ((bn s (p + i) : Nat) : Int) := by rw [w64 (by omega) (by omega)]
  have e3 : wrap64 (((256 * n : Nat) : Int) + ((bn s (p + i) : Nat) : Int)) = ((256 * n + bn s (p + i) : Nat) : Int) := by rw [w64 (by omega) (by omega)]; omega
  have e4 : wrap64 ((i : Int) + 1) = ((i + 1 : Nat) : Int) := by rw [w64 (by omega) (by omega)]; omega
  rw [spec_TakeFrames.l1, if_pos (by omega), e, if_pos (by omega), if_pos (by omega), e1, bn_eq, e2, e3, e4]

theorem toNat_p8 (p n : Nat) : ((p : Int) + 8 + (n : Int)).toNat = p + 8 + n := by omega
theorem spec_tail (s : ByteArray) (hs : s.size ≤ 4194304) (acc : List ByteArray) (p : Nat) (h8 : p + 8 ≤ s.size) (hl : acc.length ≤ p) (r : List ByteArray × Int)
    (hyes : isFrame s p → Ev (fun k => spec_TakeFrames.l0 k s (acc ++ [dataAt s p]) ((p + 8 + hdr s p : Nat) : Int)) r) (hno : ¬ isFrame s p → r = (acc, (p : Int))) :
    Ev (fun k => spec_TakeFrames.l1 k s acc (p : Int) ((hdr s p : Nat) : Int) 4) r := by
  have e8 : wrap64 ((p : Int) + 8) = ((p + 8 : Nat) : Int) := by rw [w64 (by omega) (by omega)]; omega
  have e4 : wrap64 ((p : Int) + 4) = ((p + 4 : Nat) : Int) := by rw [w64 (by omega) (by omega)]; omega
  have hh : hdr s p < 4294967296 := by
    have h0 := bn_lt s p; have h1 := bn_lt s (p + 1); have h2 := bn_lt s (p + 2); have h3 := bn_lt s (p + 3)
    unfold hdr
    omega
  have en : wrap64 (((p + 8 : Nat) : Int) + ((hdr s p : Nat) : Int)) = ((p + 8 + hdr s p : Nat) : Int) := by rw [w64 (by omega) (by omega)]; omega
  by_cases c1 : hdr s p > 1000000
  · refine Ev.step (f := fun _ => some r) (fun k => ?_) (Ev.now _)
    rw [spec_TakeFrames.l1, if_neg (by omega), if_pos (by omega), hno (by unfold isFrame; omega)]
  · by_cases c2 : p + 8 + hdr s p > s.size
    · refine Ev.step (f := fun _ => some r) (fun k => ?_) (Ev.now _)
      rw [spec_TakeFrames.l1, if_neg (by omega), if_neg (by omega), e8, en, if_pos (by omega), hno (by unfold isFrame; omega)]
    · have hd : s.extract (((p + 8 : Nat) : Int)).toNat (((p + 8 + hdr s p : Nat) : Int)).toNat = dataAt s p := rfl
      have hx : s.extract (((p + 4 : Nat) : Int)).toNat (((p + 8 : Nat) : Int)).toNat = s.extract (p + 4) (p + 8) := rfl
      have hds : (dataAt s p).size ≤ 140737488351232 := by unfold dataAt; rw [ByteArray.size_extract]; omega
      refine Ev.step (fun k => by rw [spec_TakeFrames.l1, if_neg (by omega), if_neg (by omega), e8, en, if_neg (by omega), if_pos (by omega), if_pos (by omega), if_pos (by omega), hd]) ?_
      refine Ev.bind (spec_crc_ev _ hds) ?_
      simp only [spec_four_eq', Option.bind_some, e4, hx]
      refine pos_ (by omega) (pos_ (by omega) (pos_ (by omega) ?_))
      by_cases c3 : (fourB ((crcOf (dataAt s p) : Nat) : Int)).toList = (s.extract (p + 4) (p + 8)).toList
      · refine pos_ c3 (pos_ (by omega) ?_)
        exact hyes ⟨h8, by omega, by omega, c3⟩
      · refine neg_ c3 ?_
        rw [hno (fun h => c3 h.2.2.2)]
        exact Ev.now _

theorem spec_take_ev (s : ByteArray) (hs : s.size ≤ 4194304) : ∀ (d p : Nat) (acc : List ByteArray), p ≤ s.size → s.size + 1 ≤ p + d → acc.length ≤ p →
    Ev (fun k => spec_TakeFrames.l0 k s acc (p : Int)) (acc ++ (takes d s p).1, (((takes d s p).2 : Nat) : Int))
  | 0, p, acc, h1, h2, _ => by omega
  | d + 1, p, acc, h1, h2, hl => by
    by_cases c0 : p + 8 ≤ s.size
    · have e8 : wrap64 ((p : Int) + 8) = ((p + 8 : Nat) : Int) := by rw [w64 (by omega) (by omega)]; omega
      refine Ev.step (fun k => by rw [spec_TakeFrames.l0, e8, if_pos (by omega)]) ?_
      have h0 := bn_lt s p; have h1 := bn_lt s (p + 1); have h2 := bn_lt s (p + 2); have h3 := bn_lt s (p + 3)
      refine spec_step s hs acc p 0 0 c0 (by omega) (by omega) _ ?_
      refine spec_step s hs acc p (256 * 0 + bn s (p + 0)) 1 c0 (by simp only [Nat.add_zero]; omega) (by omega) _ ?_
      refine spec_step s hs acc p (256 * (256 * 0 + bn s (p + 0)) + bn s (p + 1)) 2 c0 (by simp only [Nat.add_zero]; omega) (by omega) _ ?_
      refine spec_step s hs acc p (256 * (256 * (256 * 0 + bn s (p + 0)) + bn s (p + 1)) + bn s (p + 2)) 3 c0 (by simp only [Nat.add_zero]; omega) (by omega) _ ?_
      have hh : 256 * (256 * (256 * (256 * 0 + bn s (p + 0)) + bn s (p + 1)) + bn s (p + 2)) + bn s (p + 3) = hdr s p := by simp only [Nat.add_zero, Nat.mul_zero, Nat.zero_add]; rfl
      rw [hh]
      refine spec_tail s hs acc p c0 hl _ (fun hf => ?_) (fun hf => ?_)
      · rw [takes_yes hf]
        have := spec_take_ev s hs d (p + 8 + hdr s p) (acc ++ [dataAt s p]) hf.2.2.1 (by omega) (by simp; omega)
        simpa using this
      · rw [takes_no hf]
        simp
    · have e8 : wrap64 ((p : Int) + 8) = ((p + 8 : Nat) : Int) := by rw [w64 (by omega) (by omega)]; omega
      rw [takes_no (fun hf => c0 hf.1)]
      refine Ev.step (f := fun _ => _) (fun k => ?_) (Ev.now _)
      rw [spec_TakeFrames.l0, e8, if_neg (by omega)]
      simp

/-! ### The program's -/
theorem ofInt_i64 (a : Nat) (ha : a < 18446744073709551616) : (BitVec.ofInt 64 (a : Int)).toNat = a := by
  rw [BitVec.toNat_ofInt]
  omega
theorem or64 (a b : Nat) (ha : a < 4611686018427387904) (hb : b < 4611686018427387904) : Go.bits .or .i64 (a : Int) (b : Int) = ((a ||| b : Nat) : Int) := by
  have hx : a ||| b < 2 ^ 62 := Nat.or_lt_two_pow (by omega) (by omega)
  show IntKind.i64.wrap ((BitVec.ofInt 64 (a : Int) ||| BitVec.ofInt 64 (b : Int)).toNat : Int) = _
  rw [BitVec.toNat_or, ofInt_i64 a (by omega), ofInt_i64 b (by omega), i64_w, w64 (by omega) (by omega)]
theorem or_add (i a b : Nat) (hb : b < 2 ^ i) : 2 ^ i * a ||| b = 2 ^ i * a + b := (Nat.two_pow_add_eq_or_of_lt hb a).symm
theorem hdr_or (s : ByteArray) (p : Nat) : Go.bits .or .i64 (Go.bits .or .i64 (Go.bits .or .i64 (wrap64 ((wrap64 (bn s p : Int)) * 16777216)) (wrap64 ((wrap64 (bn s (p + 1) : Int)) * 65536))) (wrap64 ((wrap64 (bn s (p + 2) : Int)) * 256))) (wrap64 (bn s (p + 3) : Int)) = ((hdr s p : Nat) : Int) := by
  have h0 := bn_lt s p; have h1 := bn_lt s (p + 1); have h2 := bn_lt s (p + 2); have h3 := bn_lt s (p + 3)
  unfold hdr
  generalize bn s p = a at *
  generalize bn s (p + 1) = b at *
  generalize bn s (p + 2) = c at *
  generalize bn s (p + 3) = d at *
  have e1 : wrap64 ((wrap64 (a : Int)) * 16777216) = ((2 ^ 24 * a : Nat) : Int) := by rw [w64 (i := (a : Int)) (by omega) (by omega), w64 (by omega) (by omega)]; omega
  have e2 : wrap64 ((wrap64 (b : Int)) * 65536) = ((2 ^ 16 * b : Nat) : Int) := by rw [w64 (i := (b : Int)) (by omega) (by omega), w64 (by omega) (by omega)]; omega
  have e3 : wrap64 ((wrap64 (c : Int)) * 256) = ((2 ^ 8 * c : Nat) : Int) := by rw [w64 (i := (c : Int)) (by omega) (by omega), w64 (by omega) (by omega)]; omega
  have e4 : wrap64 (d : Int) = (d : Int) := w64 (by omega) (by omega)
  rw [e1, e2, e3, e4, or64 _ _ (by omega) (by omega)]
  have o1 : 2 ^ 24 * a ||| 2 ^ 16 * b = 2 ^ 16 * (256 * a + b) := by
    rw [or_add 24 a (2 ^ 16 * b) (by omega)]
    omega
  rw [o1, or64 _ _ (by omega) (by omega)]
  have o2 : 2 ^ 16 * (256 * a + b) ||| 2 ^ 8 * c = 2 ^ 8 * (256 * (256 * a + b) + c) := by
    rw [or_add 16 (256 * a + b) (2 ^ 8 * c) (by omega)]
    omega
  rw [o2, or64 _ _ (by omega) (by omega)]
  have o3 : 2 ^ 8 * (256 * (256 * a + b) + c) ||| d = 256 * (256 * (256 * a + b) + c) + d := by
    rw [or_add 8 _ d (by omega)]
  rw [o3]

theorem impl_tail (s : ByteArray) (hs : s.size ≤ 4194304) (acc : List ByteArray) (p : Nat) (h8 : p + 8 ≤ s.size) (hl : acc.length ≤ p) (r : List ByteArray × Int) (b : Bool)
    (hb : b = true ↔ hdr s p > 1000000 ∨ p + 8 + hdr s p > s.size)
    (hyes : isFrame s p → Ev (fun k => impl_TakeFrames.l0 k s (acc ++ [dataAt s p]) ((p + 8 + hdr s p : Nat) : Int)) r) (hno : ¬ isFrame s p → r = (acc, (p : Int))) :
    Ev (fun k => impl_TakeFrames.j1 k s acc (p : Int) ((hdr s p : Nat) : Int) b) r := by
  have e8 : wrap64 ((p : Int) + 8) = ((p + 8 : Nat) : Int) := by rw [w64 (by omega) (by omega)]; omega
  have e4 : wrap64 ((p : Int) + 4) = ((p + 4 : Nat) : Int) := by rw [w64 (by omega) (by omega)]; omega
  have hh : hdr s p < 4294967296 := by
    have h0 := bn_lt s p; have h1 := bn_lt s (p + 1); have h2 := bn_lt s (p + 2); have h3 := bn_lt s (p + 3)
    unfold hdr
    omega
  have en : wrap64 (((p + 8 : Nat) : Int) + ((hdr s p : Nat) : Int)) = ((p + 8 + hdr s p : Nat) : Int) := by rw [w64 (by omega) (by omega)]; omega
  by_cases c1 : b = true
  · refine Ev.step (f := fun _ => some r) (fun k => ?_) (Ev.now _)
    rw [impl_TakeFrames.j1, if_pos c1, hno (by have := hb.1 c1; unfold isFrame; omega)]
  · have c2 : ¬ (hdr s p > 1000000 ∨ p + 8 + hdr s p > s.size) := fun h => c1 (hb.2 h)
    have hd : s.extract (((p + 8 : Nat) : Int)).toNat (((p + 8 + hdr s p : Nat) : Int)).toNat = dataAt s p := rfl
    have hx : s.extract (((p + 4 : Nat) : Int)).toNat (((p + 8 : Nat) : Int)).toNat = s.extract (p + 4) (p + 8) := rfl
    have hds : (dataAt s p).size ≤ 140737488351232 := by unfold dataAt; rw [ByteArray.size_extract]; omega
    refine Ev.step (fun k => by rw [impl_TakeFrames.j1, if_neg c1, e8, en, if_pos (by omega), if_pos (by omega), if_pos (by omega), hd]) ?_
    refine Ev.bind (impl_crc_ev _ hds) ?_
    simp only [impl_four_eq, Option.bind_some, e4, hx]
    refine pos_ (by omega) (pos_ (by omega) (pos_ (by omega) ?_))
    by_cases c3 : (fourB ((crcOf (dataAt s p) : Nat) : Int)).toList = (s.extract (p + 4) (p + 8)).toList
    · refine pos_ c3 (pos_ (by omega) ?_)
      exact hyes ⟨h8, by omega, by omega, c3⟩
    · refine neg_ c3 ?_
      rw [hno (fun h => c3 h.2.2.2)]
      exact Ev.now _

theorem impl_take_ev (s : ByteArray) (hs : s.size ≤ 4194304) : ∀ (d p : Nat) (acc : List ByteArray), p ≤ s.size → s.size + 1 ≤ p + d → acc.length ≤ p →
    Ev (fun k => impl_TakeFrames.l0 k s acc (p : Int)) (acc ++ (takes d s p).1, (((takes d s p).2 : Nat) : Int))
  | 0, p, acc, h1, h2, _ => by omega
  | d + 1, p, acc, h1, h2, hl => by
    have es : wrap64 ((s.size : Int) - (p : Int)) = (s.size : Int) - (p : Int) := w64 (by omega) (by omega)
    by_cases c0 : p + 8 ≤ s.size
    · have e1 : wrap64 ((p : Int) + 1) = ((p + 1 : Nat) : Int) := by rw [w64 (by omega) (by omega)]; omega
      have e2 : wrap64 ((p : Int) + 2) = ((p + 2 : Nat) : Int) := by rw [w64 (by omega) (by omega)]; omega
      have e3 : wrap64 ((p : Int) + 3) = ((p + 3 : Nat) : Int) := by rw [w64 (by omega) (by omega)]; omega
      have e9 : wrap64 ((s.size : Int) - (p : Int) - 8) = (s.size : Int) - (p : Int) - 8 := w64 (by omega) (by omega)
      have ho := hdr_or s p
      have hT : ∀ b : Bool, (b = true ↔ hdr s p > 1000000 ∨ p + 8 + hdr s p > s.size) → Ev (fun k => impl_TakeFrames.j1 k s acc (p : Int) ((hdr s p : Nat) : Int) b) (acc ++ (takes (d + 1) s p).1, (((takes (d + 1) s p).2 : Nat) : Int)) := fun b hb => by
        refine impl_tail s hs acc p c0 hl _ b hb (fun hf => ?_) (fun hf => ?_)
        · rw [takes_yes hf]
          have := impl_take_ev s hs d (p + 8 + hdr s p) (acc ++ [dataAt s p]) hf.2.2.1 (by omega) (by simp; omega)
          simpa using this
        · rw [takes_no hf]
          simp
      by_cases c1 : hdr s p > 1000000
      · refine Ev.step (fun k => ?_) (hT true (by simp [c1]))
        rw [impl_TakeFrames.l0, es, e1, e2, e3, bn_eq, bn_eq, bn_eq, bn_eq, ho, if_pos (by omega), if_pos (by omega), if_pos (by omega), if_pos (by omega), if_pos (by omega), if_pos (by omega), if_pos (by omega), if_pos (by omega), if_pos (by omega), if_pos (by omega)]
      · refine Ev.step (fun k => ?_) (hT (decide (((hdr s p : Nat) : Int) > (s.size : Int) - (p : Int) - 8)) (by rw [decide_eq_true_iff]; omega))
        rw [impl_TakeFrames.l0, es, e1, e2, e3, bn_eq, bn_eq, bn_eq, bn_eq, ho, if_pos (by omega), if_pos (by omega), if_pos (by omega), if_pos (by omega), if_pos (by omega), if_pos (by omega), if_pos (by omega), if_pos (by omega), if_pos (by omega), if_neg (by omega), e9]
    · rw [takes_no (fun hf => c0 hf.1)]
      refine Ev.step (f := fun _ => _) (fun k => ?_) (Ev.now _)
      rw [impl_TakeFrames.l0, es, if_neg (by omega)]
      simp

theorem takes_all (s : ByteArray) (hs : s.size ≤ 4194304) :
    Ev (fun k => spec_TakeFrames.f k s) ((takes (s.size + 1) s 0).1, (((takes (s.size + 1) s 0).2 : Nat) : Int)) ∧ Ev (fun k => impl_TakeFrames.f k s) ((takes (s.size + 1) s 0).1, (((takes (s.size + 1) s 0).2 : Nat) : Int)) :=
  ⟨spec_take_ev s hs (s.size + 1) 0 [] (by omega) (by omega) (by simp), impl_take_ev s hs (s.size + 1) 0 [] (by omega) (by omega) (by simp)⟩
end Go.Proofs.Ytcfnhfbaakflgaa.Pure
