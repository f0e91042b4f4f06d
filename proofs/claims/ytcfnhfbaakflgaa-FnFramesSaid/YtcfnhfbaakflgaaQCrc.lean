/- The two CRC-32 functions of the program and the reference come to the same number, for every text below 2^47 bytes. -/
import Derived.Test.YtcfnhfbaakflgaaPFramesx1
import Derived.Laws.BitsAllLaws
import Derived.Test.YtcfnhfbaakflgaaQEv
namespace Go.Proofs.Ytcfnhfbaakflgaa.Pure
open Go.RowKit Go.Proofs.Ytcfnhfbaakflgaa.PFrames Go.Proofs.YtcfnhfbaakflgaaW.PrintWords Go.Proofs.YtcfnhfbaakflgaaW.PrintLast

/-- One bit of the CRC. -/
def step1 (n : Nat) : Nat := if n % 2 = 1 then n / 2 ^^^ 3988292384 else n / 2
def stepN : Nat → Nat → Nat
  | 0, n => n
  | j + 1, n => stepN j (step1 n)

theorem step1_lt {n : Nat} (h : n < 4294967296) : step1 n < 4294967296 := by
  unfold step1
  split
  · exact Nat.xor_lt_two_pow (n := 32) (by omega) (by omega)
  · omega
theorem stepN_lt : ∀ (j : Nat) {n : Nat}, n < 4294967296 → stepN j n < 4294967296
  | 0, _, h => h
  | j + 1, _, h => stepN_lt j (step1_lt h)
theorem xor_lt {a b : Nat} (ha : a < 4294967296) (hb : b < 4294967296) : a ^^^ b < 4294967296 := Nat.xor_lt_two_pow (n := 32) ha hb

theorem step1_xor (a b : Nat) : step1 (a ^^^ b) = step1 a ^^^ step1 b := by
  have hd : (a ^^^ b) / 2 = a / 2 ^^^ b / 2 := by
    have := Nat.shiftRight_xor_distrib (a := a) (b := b) (i := 1)
    simpa [Nat.shiftRight_eq_div_pow] using this
  have hm := Nat.xor_mod_two_eq_one (a := a) (b := b)
  unfold step1
  by_cases ha : a % 2 = 1 <;> by_cases hb : b % 2 = 1
  · rw [if_neg (by rw [hm]; simp [ha, hb]), if_pos ha, if_pos hb, hd]
    rw [Nat.xor_assoc, Nat.xor_comm 3988292384, Nat.xor_assoc, Nat.xor_self, Nat.xor_zero]
  · rw [if_pos (by rw [hm]; simp [ha, hb]), if_pos ha, if_neg hb, hd]
    rw [Nat.xor_assoc, Nat.xor_comm (b / 2), Nat.xor_assoc]
  · rw [if_pos (by rw [hm]; simp [ha, hb]), if_neg ha, if_pos hb, hd, Nat.xor_assoc]
  · rw [if_neg (by rw [hm]; simp [ha, hb]), if_neg ha, if_neg hb, hd]
theorem stepN_xor : ∀ (j a b : Nat), stepN j (a ^^^ b) = stepN j a ^^^ stepN j b
  | 0, _, _ => rfl
  | j + 1, a, b => by simp only [stepN, step1_xor, stepN_xor j]
theorem stepN_high : ∀ (j h : Nat), stepN j (2 ^ j * h) = h
  | 0, h => by simp [stepN]
  | j + 1, h => by
    have e : step1 (2 ^ (j + 1) * h) = 2 ^ j * h := by
      have : 2 ^ (j + 1) * h = 2 * (2 ^ j * h) := by rw [Nat.pow_succ, Nat.mul_comm (2 ^ j) 2, Nat.mul_assoc]
      rw [this]
      unfold step1
      rw [if_neg (by omega)]
      omega
    rw [stepN, e, stepN_high j]
theorem split256 (c : Nat) : c = 2 ^ 8 * (c / 256) ^^^ c % 256 := by
  have h := Nat.two_pow_add_eq_or_of_lt (i := 8) (b := c % 256) (by omega) (c / 256)
  apply Nat.eq_of_testBit_eq
  intro i
  rw [Nat.testBit_xor]
  have h1 : (2 ^ 8 * (c / 256)).testBit i = (decide (8 ≤ i) && c.testBit i) := by
    rw [Nat.testBit_two_pow_mul]
    by_cases hi : 8 ≤ i
    · have : c / 256 = c / 2 ^ 8 := rfl
      rw [this, Nat.testBit_div_two_pow]
      simp [hi]
    · simp [hi]
  have h2 : (c % 256).testBit i = (decide (i < 8) && c.testBit i) := by
    have : c % 256 = c % 2 ^ 8 := rfl
    rw [this, Nat.testBit_mod_two_pow]
  rw [h1, h2]
  by_cases hi : 8 ≤ i
  · have : ¬ i < 8 := by omega
    simp [hi, this]
  · have : i < 8 := by omega
    simp [hi, this]
/-- A byte at a time, by the table, is the same as a bit at a time. -/
theorem byte_step (c b : Nat) : stepN 8 (c ^^^ b) = c / 256 ^^^ stepN 8 (c % 256 ^^^ b) := by
  have h := split256 c
  have : c ^^^ b = 2 ^ 8 * (c / 256) ^^^ (c % 256 ^^^ b) := by rw [← Nat.xor_assoc, ← h]
  rw [this, stepN_xor, stepN_high]

/-- The sum of what stands from byte i on: d bytes. -/
def crcFrom (s : ByteArray) : Nat → Nat → Nat → Nat
  | 0, _, c => c
  | d + 1, i, c => crcFrom s d (i + 1) (stepN 8 (c ^^^ (bt s (i : Int)).toNat))
theorem crcFrom_lt (s : ByteArray) : ∀ (d i c : Nat), c < 4294967296 → crcFrom s d i c < 4294967296
  | 0, _, _, h => h
  | d + 1, i, c, h => crcFrom_lt s d (i + 1) _ (stepN_lt 8 (xor_lt h (by have := bt_range s i; omega)))
def crcOf (s : ByteArray) : Nat := crcFrom s s.size 0 4294967295 ^^^ 4294967295
theorem crcOf_lt (s : ByteArray) : crcOf s < 4294967296 := xor_lt (crcFrom_lt _ _ _ _ (by omega)) (by omega)

theorem xor32 (a b : Nat) (ha : a < 4294967296) (hb : b < 4294967296) : Go.bits .xor .u32 (a : Int) (b : Int) = ((a ^^^ b : Nat) : Int) := u32_xor_nat a b ha hb

/-- The program's inner loop. -/
theorem impl_bits (s : ByteArray) (x6 x7 : Int) (r : Int) : ∀ (m n j : Nat), j + m = 8 → n < 4294967296 →
    Ev (fun k => impl_crc.l0 k s ((stepN m n : Nat) : Int) x6 (wrap64 (x7 + 1))) r → Ev (fun k => impl_crc.l1 k s (n : Int) x6 x7 (j : Int)) r
  | 0, n, j, hj, hn, h => by
    refine Ev.step (fun k => ?_) h
    rw [impl_crc.l1, if_neg (by omega)]
    rfl
  | m + 1, n, j, hj, hn, h => by
    have hand : Go.bits .and .u32 (n : Int) 1 = ((n % 2 : Nat) : Int) := by
      have := u32_and_nat n 1 hn (by omega)
      rw [Nat.and_one_is_mod] at this
      exact this
    have hdiv : (n : Int) / 2 = ((n / 2 : Nat) : Int) := by omega
    have ih := impl_bits s x6 x7 r m (step1 n) (j + 1) (by omega) (step1_lt hn) h
    refine Ev.step (fun k => ?_) ih
    rw [impl_crc.l1, if_pos (by omega), hand, hdiv, w64 (by omega) (by omega)]
    by_cases hb : n % 2 = 1
    · rw [if_pos (by omega)]
      have hx := xor32 (n / 2) 3988292384 (by omega) (by omega)
      have hs : step1 n = n / 2 ^^^ 3988292384 := by unfold step1; rw [if_pos hb]
      rw [hs, show (3988292384 : Int) = ((3988292384 : Nat) : Int) from rfl, hx]
      rfl
    · rw [if_neg (by omega)]
      have hs : step1 n = n / 2 := by unfold step1; rw [if_neg hb]
      rw [hs]
      rfl
theorem impl_from (s : ByteArray) (hs : s.size ≤ 140737488351232) : ∀ (d i c : Nat), i + d = s.size → c < 4294967296 →
    Ev (fun k => impl_crc.l0 k s (c : Int) (s.size : Int) (i : Int)) ((crcFrom s d i c ^^^ 4294967295 : Nat) : Int)
  | 0, i, c, hi, hc => by
    refine Ev.step (fun k => ?_) (Ev.now _)
    rw [impl_crc.l0, if_neg (by omega), crcFrom, Nat.xor_comm c, ← xor32 4294967295 c (by omega) hc]
    rfl
  | d + 1, i, c, hi, hc => by
    have hb := bt_range s i
    have hbn : bt s (i : Int) = (((bt s (i : Int)).toNat : Nat) : Int) := by omega
    have ih := impl_from s hs d (i + 1) (stepN 8 (c ^^^ (bt s (i : Int)).toNat)) (by omega) (stepN_lt 8 (xor_lt hc (by omega)))
    have hl := impl_bits s (s.size : Int) (i : Int) _ 8 (c ^^^ (bt s (i : Int)).toNat) 0 (by omega) (xor_lt hc (by omega)) (by
      rw [w64 (by omega) (by omega)]
      exact ih)
    refine Ev.step (fun k => ?_) hl
    rw [impl_crc.l0, if_pos (by omega), if_pos (by omega), if_pos (by omega)]
    have e : bt s (i : Int) % 4294967296 = (((bt s (i : Int)).toNat : Nat) : Int) := by omega
    rw [e, xor32 _ _ hc (by omega)]
    rfl
theorem impl_crc_ev (s : ByteArray) (hs : s.size ≤ 140737488351232) : Ev (fun k => impl_crc.f k s) ((crcOf s : Nat) : Int) :=
  impl_from s hs s.size 0 4294967295 (by omega) (by omega)

/-! ### The reference: the table, then a byte at a time -/
def tab (n : Nat) : List Int := (List.range n).map fun i => ((stepN 8 i : Nat) : Int)
theorem tab_succ (n : Nat) : tab (n + 1) = tab n ++ [((stepN 8 n : Nat) : Int)] := by simp [tab, List.range_succ]
theorem tab_length (n : Nat) : (tab n).length = n := by simp [tab]
theorem spec_bits (l : List Int) (x2 : Int) (r : List Int) (hl : l.length < 35184372088832) : ∀ (m n j : Nat), j + m = 8 → n < 4294967296 →
    Ev (fun k => spec_l14K.l0 k (l ++ [((stepN m n : Nat) : Int)]) ((x2 + 1) % 4294967296)) r → Ev (fun k => spec_l14K.l1 k l x2 (n : Int) (j : Int)) r
  | 0, n, j, hj, hn, h => by
    refine Ev.step (fun k => ?_) h
    rw [spec_l14K.l1, if_neg (by omega), if_pos hl]
    rfl
  | m + 1, n, j, hj, hn, h => by
    have hdiv : (n : Int) / 2 = ((n / 2 : Nat) : Int) := by omega
    have ih := spec_bits l x2 r hl m (step1 n) (j + 1) (by omega) (step1_lt hn) h
    refine Ev.step (fun k => ?_) ih
    have hmod : Int.tmod (n : Int) 2 = ((n % 2 : Nat) : Int) := by rw [Int.tmod_eq_emod_of_nonneg (by omega)]; omega
    rw [spec_l14K.l1, if_pos (by omega), hmod, hdiv, w64 (by omega) (by omega)]
    by_cases hb : n % 2 = 1
    · rw [if_pos (by omega)]
      have hx := xor32 (n / 2) 3988292384 (by omega) (by omega)
      have hs : step1 n = n / 2 ^^^ 3988292384 := by unfold step1; rw [if_pos hb]
      rw [hs, show (3988292384 : Int) = ((3988292384 : Nat) : Int) from rfl, hx]
      rfl
    · rw [if_neg (by omega)]
      have hs : step1 n = n / 2 := by unfold step1; rw [if_neg hb]
      rw [hs]
      rfl
theorem spec_tab : ∀ (d n : Nat), n + d = 256 → Ev (fun k => spec_l14K.l0 k (tab n) (n : Int)) (tab 256)
  | 0, n, h => by
    obtain rfl : n = 256 := by omega
    refine Ev.step (fun k => ?_) (Ev.now _)
    rw [spec_l14K.l0, if_neg (by omega)]
  | d + 1, n, h => by
    have ih := spec_tab d (n + 1) (by omega)
    have hb := spec_bits (tab n) (n : Int) (tab 256) (by rw [tab_length]; omega) 8 n 0 (by omega) (by omega) (by
      rw [← tab_succ, show ((n : Int) + 1) % 4294967296 = ((n + 1 : Nat) : Int) by omega]
      exact ih)
    refine Ev.step (fun k => ?_) hb
    rw [spec_l14K.l0, if_pos (by omega)]
    rfl
theorem spec_l14K_ev : Ev (fun k => spec_l14K.f k) (tab 256) := by
  have := spec_tab 256 0 (by omega)
  exact this
theorem tab_at (n : Nat) (h : n < 256) : rd (tab 256) (n : Int) = ((stepN 8 n : Nat) : Int) := by
  simp [rd, tab, List.getD_eq_getElem?_getD, h]
theorem spec_from (s : ByteArray) (hs : s.size ≤ 140737488351232) : ∀ (d i c : Nat), i + d = s.size → c < 4294967296 →
    Ev (fun k => spec_l14Sum.l0 k s (tab 256) (c : Int) (i : Int)) ((crcFrom s d i c ^^^ 4294967295 : Nat) : Int)
  | 0, i, c, hi, hc => by
    refine Ev.step (fun k => ?_) (Ev.now _)
    rw [spec_l14Sum.l0, if_neg (by omega), crcFrom, Nat.xor_comm c, ← xor32 4294967295 c (by omega) hc]
    rfl
  | d + 1, i, c, hi, hc => by
    have hb := bt_range s i
    have ih := spec_from s hs d (i + 1) (stepN 8 (c ^^^ (bt s (i : Int)).toNat)) (by omega) (stepN_lt 8 (xor_lt hc (by omega)))
    refine Ev.step (fun k => ?_) ih
    obtain ⟨b, hbn⟩ : ∃ b : Nat, bt s (i : Int) = (b : Int) := ⟨(bt s (i : Int)).toNat, by omega⟩
    have e8 : Go.bits .xor .u8 ((c : Int) % 256) (b : Int) = ((c % 256 ^^^ b : Nat) : Int) := by
      have := u8_xor_nat (c % 256) b (by omega) (by omega)
      rw [← this]
      rfl
    have hlt : c % 256 ^^^ b < 256 := Nat.xor_lt_two_pow (n := 8) (by omega) (by omega)
    rw [spec_l14Sum.l0, if_pos (by omega), if_pos (by omega), hbn, e8, if_pos (by omega), if_pos (by rw [tab_length]; omega), tab_at _ hlt]
    have ed : (c : Int) / 256 = ((c / 256 : Nat) : Int) := by omega
    rw [ed, xor32 _ _ (by omega) (stepN_lt 8 (by omega)), w64 (by omega) (by omega), ← byte_step]
    rfl
theorem spec_crc_ev (s : ByteArray) (hs : s.size ≤ 140737488351232) : Ev (fun k => spec_l14Sum.f k s) ((crcOf s : Nat) : Int) := by
  unfold spec_l14Sum.f
  exact Ev.bind spec_l14K_ev (spec_from s hs s.size 0 4294967295 (by omega) (by omega))

theorem spec_four_eq (c : Int) : spec_l14Four.f c = impl_four.f c := rfl
end Go.Proofs.Ytcfnhfbaakflgaa.Pure
