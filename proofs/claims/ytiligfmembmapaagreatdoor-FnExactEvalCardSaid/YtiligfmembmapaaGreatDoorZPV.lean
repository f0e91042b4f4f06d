/- Cells and values: what the small functions say. -/
import Derived.Test.YtiligfmembmapaaGreatDoorZPB
import Derived.Test.YtiligfmembmapaaGreatDoorZPH0
import Derived.Test.YtiligfmembmapaaGreatDoorZQAll
set_option linter.unusedVariables false
set_option linter.unusedSimpArgs false
set_option linter.unusedSectionVars false
namespace Go.Proofs.YtiligfmembmapaaGreatDoor.Abs
open Go

/-- The empty text. -/
abbrev eS : ByteArray := ⟨#[]⟩
theorem beqI (a b : Int) : (a == b) = decide (a = b) := rfl
def inB (n lo hi : Int) : Bool := decide (lo ≤ n ∧ n ≤ hi)
theorem iwithin_ok (n lo hi : Int) : iwithin n lo hi = some ((inB n lo hi, ()), ()) := by
  rw [iwithin_eq]
  unfold inB
  by_cases h : lo ≤ n <;> simp [h]
theorem sl1In_ok (n lo hi : Int) : sl1In n lo hi = some ((inB n lo hi, ()), ()) := by
  rw [sl1In_eq]
  unfold inB
  by_cases h : lo ≤ n <;> simp [h]
theorem inB_iff {n lo hi : Int} : inB n lo hi = true ↔ lo ≤ n ∧ n ≤ hi := by simp [inB]
def okRef (r : dRef) : Bool := inB r.1 1 52 && inB r.2.1 1 99
theorem sRefOk_ok (r : dRef) : sRefOk r = some ((okRef r, ()), ()) := by
  rw [sRefOk_eq]
  unfold okRef
  simp only [sl1In_ok, Option.bind_some]
  cases inB r.1 1 52 <;> simp
theorem iRefOk_ok (r : dRef) : iRefOk r = some ((okRef r, ()), ()) := by
  rw [iRefOk_eq]
  unfold okRef
  simp only [iwithin_ok, Option.bind_some]
  cases inB r.1 1 52 <;> simp
def okArea (a : dArea) : Bool := okRef a.1 && okRef a.2.1 && decide (a.1.1 ≤ a.2.1.1) && decide (a.1.2.1 ≤ a.2.1.2.1)
theorem sAreaOk_ok (a : dArea) : sAreaOk a = some ((okArea a, ()), ()) := by
  rw [sAreaOk_eq]
  unfold okArea
  simp only [sRefOk_ok, Option.bind_some]
  cases okRef a.1 <;> cases okRef a.2.1 <;> by_cases h : a.1.1 ≤ a.2.1.1 <;> simp [h]
theorem iAreaOk_ok (a : dArea) : iAreaOk a = some ((okArea a, ()), ()) := by
  rw [iAreaOk_eq]
  unfold okArea
  simp only [iRefOk_ok, Option.bind_some]
  cases okRef a.1 <;> cases okRef a.2.1 <;> by_cases h : a.1.1 ≤ a.2.1.1 <;> simp [h]
/-! ### Texts that are plain -/
def prB (b : Int) : Bool := decide (32 ≤ b ∧ b ≤ 126)
def plain (s : ByteArray) : Bool := (bts s).all prB
theorem sl2Plain_loop {s : ByteArray} (hs : s.size ≤ 9223372036854775807) : ∀ (ys pre : List Int), bts s = pre ++ ys → sl2Plain_p2 s (pre.length : Int) = some ((ys.all prB && decide ((s.size : Int) ≤ 200), ()), ())
  | [], pre, he => by
    rw [sl2Plain_p2_eq, ifF (nlt_ats he)]
    simp
  | y :: ys, pre, he => by
    rw [sl2Plain_p2_eq, ifT (lt_ats he), ixs_at he, ixs_at he, wrap_ats he hs, sl2Plain_loop hs ys _ (next_at he)]
    by_cases h1 : y < 32
    · have : prB y = false := by simp [prB]; omega
      simp [h1, this]
    · by_cases h2 : y > 126
      · have : prB y = false := by simp [prB]; omega
        simp [h1, h2, this]
      · have : prB y = true := by simp [prB]; omega
        simp [h1, h2, this]
theorem sl2Plain_ok {s : ByteArray} (hs : s.size ≤ 9223372036854775807) : sl2Plain s = some ((plain s && decide ((s.size : Int) ≤ 200), ()), ()) := by
  rw [sl2Plain_eq]
  exact sl2Plain_loop hs (bts s) [] rfl
theorem iisText_loop {s : ByteArray} {m : Int} (hs : s.size ≤ 9223372036854775807) : ∀ (ys pre : List Int), bts s = pre ++ ys → iisText_p2 s m (s.size : Int) (pre.length : Int) = some ((ys.all prB && decide ((s.size : Int) ≤ m), ()), ())
  | [], pre, he => by
    rw [iisText_p2_eq, ifF (nlt_ats he)]
    simp
  | y :: ys, pre, he => by
    rw [iisText_p2_eq, ifT (lt_ats he), ixs_at he, ixs_at he, wrap_ats he hs, iisText_loop hs ys _ (next_at he)]
    by_cases h1 : y < 32
    · have : prB y = false := by simp [prB]; omega
      simp [h1, this]
    · by_cases h2 : y > 126
      · have : prB y = false := by simp [prB]; omega
        simp [h1, h2, this]
      · have : prB y = true := by simp [prB]; omega
        simp [h1, h2, this]
theorem iisText_ok {s : ByteArray} {m : Int} (hs : s.size ≤ 9223372036854775807) : iisText s m = some ((plain s && decide ((s.size : Int) ≤ m), ()), ()) := by
  rw [iisText_eq]
  exact iisText_loop hs (bts s) [] rfl
/-! ### Values -/
def okVal (v : dValue) : Bool :=
  if v.1 = 2 then decide (v.2.1 = 0) && (plain v.2.2.1 && decide ((v.2.2.1.size : Int) ≤ 200)) else
  decide (v.2.2.1 = eS) && (if v.1 = 0 then decide (v.2.1 = 0) else if v.1 = 1 then inB v.2.1 (-1000000000000000) 1000000000000000 else if v.1 = 3 then inB v.2.1 0 1 else if v.1 = 4 then inB v.2.1 1 5 else false)
theorem sValueOk_ok {v : dValue} (h : v.2.2.1.size ≤ 9223372036854775807) : sValueOk v = some ((okVal v, ()), ()) := by
  rw [sValueOk_eq]
  unfold okVal
  simp only [sl1In_ok, sl2Plain_ok h, Option.bind_some, beq_iff_eq, eqS]
  by_cases h0 : v.1 = 0
  · by_cases h1 : v.2.1 = 0 <;> simp [h0, h1]
  by_cases h1 : v.1 = 1
  · cases inB v.2.1 (-1000000000000000) 1000000000000000 <;> simp [h1]
  by_cases h2 : v.1 = 2
  · by_cases h1 : v.2.1 = 0 <;> simp [h2, h1]
  by_cases h3 : v.1 = 3
  · cases inB v.2.1 0 1 <;> simp [h3]
  by_cases h4 : v.1 = 4
  · cases inB v.2.1 1 5 <;> simp [h4]
  simp [h0, h1, h2, h3, h4]
theorem iValueOk_ok {v : dValue} (h : v.2.2.1.size ≤ 9223372036854775807) : iValueOk v = some ((okVal v, ()), ()) := by
  rw [iValueOk_eq]
  unfold okVal
  simp only [iwithin_ok, iisText_ok h, Option.bind_some, beq_iff_eq, eqS]
  by_cases h2 : v.1 = 2
  · by_cases h1 : v.2.1 = 0 <;> simp [h2, h1]
  by_cases he : v.2.2.1 = eS
  · by_cases h0 : v.1 = 0
    · by_cases h1 : v.2.1 = 0 <;> simp [h0, h1, he]
    by_cases h1 : v.1 = 1
    · cases inB v.2.1 (-1000000000000000) 1000000000000000 <;> simp [h1, he]
    by_cases h3 : v.1 = 3
    · cases inB v.2.1 0 1 <;> simp [h3, he]
    by_cases h4 : v.1 = 4
    · cases inB v.2.1 1 5 <;> simp [h4, he]
    simp [h0, h1, h2, h3, h4, he]
  · simp [h2, he]
theorem okVal_size {v : dValue} (h : okVal v = true) : v.2.2.1.size ≤ 200 := by
  unfold okVal at h
  split at h
  · simp only [Bool.and_eq_true, decide_eq_true_eq] at h
    omega
  · simp only [Bool.and_eq_true, decide_eq_true_eq] at h
    rw [h.1]
    decide
theorem okVal_big {v : dValue} (h : okVal v = true) : v.2.2.1.size ≤ 9223372036854775807 := Nat.le_trans (okVal_size h) (by decide)
def vN (n : Int) : dValue := (1, n, eS, ())
def vE (n : Int) : dValue := (4, n, eS, ())
def vB (b : Bool) : dValue := (3, if b = true then 1 else 0, eS, ())
def vT (s : ByteArray) : dValue := (2, 0, s, ())
def v0 : dValue := (0, 0, eS, ())
theorem sl2Error_ok (n : Int) : sl2Error n = some ((vE n, ()), ()) := sl2Error_eq
theorem ifault_ok (n : Int) : ifault n = some ((vE n, ()), ()) := ifault_eq
theorem inumber_ok (n : Int) : inumber n = some ((vN n, ()), ()) := inumber_eq
theorem sl2Flag_ok (b : Bool) : sl2Flag b = some ((vB b, ()), ()) := by
  rw [sl2Flag_eq]
  cases b <;> rfl
theorem itruth_ok (b : Bool) : itruth b = some ((vB b, ()), ()) := by
  rw [itruth_eq]
  cases b <;> rfl
def bnd (n : Int) : dValue := if inB n (-1000000000000000) 1000000000000000 = true then vN n else vE 4
theorem sl2Int_ok (n : Int) : sl2Int n = some ((bnd n, ()), ()) := by
  rw [sl2Int_eq]
  unfold bnd
  simp only [sl1In_ok, sl2Error_ok, Option.bind_some]
  cases inB n (-1000000000000000) 1000000000000000 <;> rfl
theorem ibounded_ok (n : Int) : ibounded n = some ((bnd n, ()), ()) := by
  rw [ibounded_eq]
  unfold bnd
  simp only [iwithin_ok, ifault_ok, inumber_ok, Option.bind_some]
  cases inB n (-1000000000000000) 1000000000000000 <;> rfl
/-- What is said of a value that is not as asked. -/
def nonV (v : dValue) : dValue := if okVal v = true then (if v.1 = 4 then v else vE 2) else vE 2
theorem inone_ok {v : dValue} (h : v.2.2.1.size ≤ 9223372036854775807) : inone v = some ((nonV v, ()), ()) := by
  rw [inone_eq]
  unfold nonV
  simp only [iValueOk_ok h, ifault_ok, Option.bind_some, beq_iff_eq]
  cases okVal v
  · rfl
  · by_cases h4 : v.1 = 4 <;> simp [h4]
def isNum (v : dValue) : Bool := okVal v && (decide (v.1 = 0) || decide (v.1 = 1))
theorem iasNumber_ok {v : dValue} (h : v.2.2.1.size ≤ 9223372036854775807) : iasNumber v = some ((v.2.1, isNum v, ()), ()) := by
  rw [iasNumber_eq]
  unfold isNum
  simp only [iValueOk_ok h, Option.bind_some, beq_iff_eq]
  cases okVal v
  · rfl
  · by_cases h0 : v.1 = 0
    · simp [h0]
    · simp [h0, beqI]
theorem sl2Num_ok {v : dValue} (h : v.2.2.1.size ≤ 9223372036854775807) : sl2Num v = some ((if isNum v = true then v.2.1 else 0, if isNum v = true then v0 else nonV v, ()), ()) := by
  rw [sl2Num_eq]
  unfold isNum nonV
  simp only [sValueOk_ok h, sl2Error_ok, Option.bind_some, beq_iff_eq]
  cases okVal v
  · rfl
  · by_cases h0 : v.1 = 0
    · simp [h0, v0]
    · by_cases h1 : v.1 = 1
      · simp [h1, v0]
      · by_cases h4 : v.1 = 4 <;> simp [h0, h1, h4]
theorem nonV_bad (v : dValue) : (nonV v).1 = 4 := by
  unfold nonV
  split
  · split
    · assumption
    · rfl
  · rfl
theorem isNum_range {v : dValue} (h : isNum v = true) : -1000000000000000 ≤ v.2.1 ∧ v.2.1 ≤ 1000000000000000 := by
  unfold isNum okVal at h
  by_cases h2 : v.1 = 2
  · simp [h2] at h
  · rw [if_neg h2] at h
    simp only [Bool.and_eq_true, Bool.or_eq_true, decide_eq_true_eq] at h
    obtain ⟨⟨_, h⟩, h0 | h1⟩ := h
    · rw [if_pos h0] at h
      simp only [decide_eq_true_eq] at h
      omega
    · rw [if_neg (by omega), if_pos h1] at h
      exact inB_iff.1 h
/-- What is reckoned of two numbers. -/
def two (f : Int → Int → dValue) (a b : dValue) : dValue := if isNum a = true then (if isNum b = true then f a.2.1 b.2.1 else nonV b) else nonV a
def addV := two fun x y => bnd (x + y)
def subV := two fun x y => bnd (x - y)
def divV := two fun x y => if y = 0 then vE 1 else bnd (Int.tdiv x y)
def negV (a : dValue) : dValue := subV v0 a
theorem sl2Two_ok {a b : dValue} (ha : a.2.2.1.size ≤ 9223372036854775807) (hb : b.2.2.1.size ≤ 9223372036854775807) : sl2Two a b = some ((if isNum a = true then (if isNum b = true then (a.2.1, b.2.1, v0, ()) else (a.2.1, 0, nonV b, ())) else (0, 0, nonV a, ())), ()) := by
  rw [sl2Two_eq]
  simp only [sl2Num_ok ha, sl2Num_ok hb, Option.bind_some, bne_iff_ne, ne_eq]
  cases ia : isNum a
  · have := nonV_bad a
    simp [this]
  · cases ib : isNum b <;> simp [v0]
theorem tdiv_range {x y : Int} (hx : -1000000000000000 ≤ x ∧ x ≤ 1000000000000000) (hy : y ≠ 0) : -1000000000000000 ≤ Int.tdiv x y ∧ Int.tdiv x y ≤ 1000000000000000 := by
  have h1 : (Int.tdiv x y).natAbs ≤ x.natAbs := by
    rw [Int.natAbs_tdiv]
    exact Nat.div_le_self _ _
  omega
section
variable {a b : dValue} (ha : a.2.2.1.size ≤ 9223372036854775807) (hb : b.2.2.1.size ≤ 9223372036854775807)
include ha hb
theorem sAdd_ok : sAdd a b = some ((addV a b, ()), ()) := by
  rw [sAdd_eq]
  unfold addV two
  simp only [sl2Two_ok ha hb, sl2Int_ok, Option.bind_some, bne_iff_ne, ne_eq]
  cases ia : isNum a
  · have := nonV_bad a
    simp [this]
  · cases ib : isNum b
    · have := nonV_bad b
      simp [this]
    · have h1 := isNum_range ia
      have h2 := isNum_range ib
      simp [v0, wr (n := a.2.1 + b.2.1) (by omega) (by omega)]
theorem sLess_ok : sLess a b = some ((subV a b, ()), ()) := by
  rw [sLess_eq]
  unfold subV two
  simp only [sl2Two_ok ha hb, sl2Int_ok, Option.bind_some, bne_iff_ne, ne_eq]
  cases ia : isNum a
  · have := nonV_bad a
    simp [this]
  · cases ib : isNum b
    · have := nonV_bad b
      simp [this]
    · have h1 := isNum_range ia
      have h2 := isNum_range ib
      simp [v0, wr (n := a.2.1 - b.2.1) (by omega) (by omega)]
theorem iAdd_ok : iAdd a b = some ((addV a b, ()), ()) := by
  rw [iAdd_eq, ireckoned_iAdd_1_eq]
  unfold addV two
  simp only [iasNumber_ok ha, iasNumber_ok hb, inone_ok ha, inone_ok hb, iAdd_1_eq, ibounded_ok, Option.bind_some]
  cases ia : isNum a
  · simp
  · cases ib : isNum b
    · simp
    · have h1 := isNum_range ia
      have h2 := isNum_range ib
      simp [wr (n := a.2.1 + b.2.1) (by omega) (by omega)]
theorem iLess_ok : iLess a b = some ((subV a b, ()), ()) := by
  rw [iLess_eq, ireckoned_iLess_1_eq]
  unfold subV two
  simp only [iasNumber_ok ha, iasNumber_ok hb, inone_ok ha, inone_ok hb, iLess_1_eq, ibounded_ok, Option.bind_some]
  cases ia : isNum a
  · simp
  · cases ib : isNum b
    · simp
    · have h1 := isNum_range ia
      have h2 := isNum_range ib
      simp [wr (n := a.2.1 - b.2.1) (by omega) (by omega)]
theorem sOver_ok : sOver a b = some ((divV a b, ()), ()) := by
  rw [sOver_eq]
  unfold divV two
  simp only [sl2Two_ok ha hb, sl2Int_ok, sl2Error_ok, Option.bind_some, bne_iff_ne, ne_eq, beq_iff_eq]
  cases ia : isNum a
  · have := nonV_bad a
    simp [this]
  · cases ib : isNum b
    · have := nonV_bad b
      simp [this]
    · have h1 := isNum_range ia
      by_cases h0 : b.2.1 = 0
      · simp [v0, h0]
      · have h2 := tdiv_range h1 h0
        simp [v0, h0, nz_ok, wr (n := Int.tdiv a.2.1 b.2.1) (by omega) (by omega)]
theorem iOver_ok : iOver a b = some ((divV a b, ()), ()) := by
  rw [iOver_eq, ireckoned_iOver_1_eq]
  unfold divV two
  simp only [iasNumber_ok ha, iasNumber_ok hb, inone_ok ha, inone_ok hb, iOver_1_eq, ibounded_ok, ifault_ok, Option.bind_some, beq_iff_eq]
  cases ia : isNum a
  · simp
  · cases ib : isNum b
    · simp
    · have h1 := isNum_range ia
      by_cases h0 : b.2.1 = 0
      · simp [h0]
      · have h2 := tdiv_range h1 h0
        simp [h0, nz_ok, wr (n := Int.tdiv a.2.1 b.2.1) (by omega) (by omega)]
end
end Go.Proofs.YtiligfmembmapaaGreatDoor.Abs
