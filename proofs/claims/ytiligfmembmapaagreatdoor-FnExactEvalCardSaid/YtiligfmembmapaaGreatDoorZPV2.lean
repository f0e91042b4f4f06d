/- Values: products, texts, order. -/
import Derived.Test.YtiligfmembmapaaGreatDoorZPV
set_option linter.unusedVariables false
set_option linter.unusedSimpArgs false
set_option linter.unusedSectionVars false
namespace Go.Proofs.YtiligfmembmapaaGreatDoor.Abs
open Go

/-! ### Products -/
def mulF (x y : Int) : dValue := if (x * y).natAbs ≤ 1000000000000000 then vN (x * y) else vE 4
def mulV := two mulF
theorem mul_cond {p q : Int} (hq : 0 < q) : Int.tdiv 1000000000000000 q < p ↔ ¬ p * q ≤ 1000000000000000 := by
  rw [Int.tdiv_eq_ediv_of_nonneg (by decide), ← Int.not_le, Int.le_ediv_iff_mul_le hq]
theorem wdiv {q : Int} (hq : 0 < q) : IntKind.i64.wrap (Int.tdiv 1000000000000000 q) = Int.tdiv 1000000000000000 q := by
  have := tdiv_range (x := 1000000000000000) (y := q) (by omega) (by omega)
  exact wr (by omega) (by omega)
theorem bnd_mul {x y : Int} (h : (x * y).natAbs ≤ 1000000000000000) : bnd (IntKind.i64.wrap (x * y)) = vN (x * y) := by
  rw [wr (by omega) (by omega)]
  unfold bnd
  rw [if_pos (inB_iff.2 (by omega))]
theorem abs_mul (x y : Int) : (x.natAbs : Int) * (y.natAbs : Int) = ((x * y).natAbs : Int) := by rw [Int.natAbs_mul]; simp
section
variable {a b : dValue} (ha : a.2.2.1.size ≤ 9223372036854775807) (hb : b.2.2.1.size ≤ 9223372036854775807)
include ha hb
theorem sTimes_ok : sTimes a b = some ((mulV a b, ()), ()) := by
  rw [sTimes_eq]
  unfold mulV two
  simp only [sl2Two_ok ha hb, sl2Int_ok, sl2Error_ok, Option.bind_some]
  cases ia : isNum a
  · have := nonV_bad a
    simp [this]
  · cases ib : isNum b
    · have := nonV_bad b
      simp [this]
    · have h1 := isNum_range ia
      have h2 := isNum_range ib
      generalize a.2.1 = x at h1
      generalize b.2.1 = y at h2
      unfold mulF
      by_cases hx : x = 0
      · simp [hx, v0, bnd, inB]
      by_cases hy : y = 0
      · simp [hx, hy, v0, bnd, inB]
      have hm := abs_mul x y
      have w1 : IntKind.i64.wrap (0 - x) = - x := by rw [wr (by omega) (by omega)]; omega
      have w2 : IntKind.i64.wrap (0 - y) = - y := by rw [wr (by omega) (by omega)]; omega
      have fin : ∀ p q : Int, p = (x.natAbs : Int) → q = (y.natAbs : Int) → (nz q (if decide (p > IntKind.i64.wrap (Int.tdiv 1000000000000000 q)) = true then some ((vE 4, ()), ()) else some ((bnd (IntKind.i64.wrap (x * y)), ()), ()))) = some ((if (x * y).natAbs ≤ 1000000000000000 then vN (x * y) else vE 4, ()), ()) := by
        intro p q hp hq
        have hq0 : 0 < q := by omega
        rw [nz_ok (by omega), wdiv hq0]
        by_cases hc : (x * y).natAbs ≤ 1000000000000000
        · rw [ifF (by rw [gt_iff_lt, mul_cond hq0, hp, hq, hm]; omega), if_pos hc, bnd_mul hc]
        · rw [ifT (by rw [gt_iff_lt, mul_cond hq0, hp, hq, hm]; omega), if_neg hc]
      by_cases nx : x < 0 <;> by_cases ny : y < 0 <;> simp only [v0, hx, hy, nx, ny, beqI, w1, w2, if_true, if_false, decide_true, decide_false, Bool.false_eq_true, bne_self_eq_false, Option.bind_some] <;> refine fin _ _ ?_ ?_ <;> omega
theorem iTimes_ok : iTimes a b = some ((mulV a b, ()), ()) := by
  rw [iTimes_eq, ireckoned_iTimes_1_eq]
  unfold mulV two
  simp only [iasNumber_ok ha, iasNumber_ok hb, inone_ok ha, inone_ok hb, iTimes_1_eq, ibounded_ok, ifault_ok, Option.bind_some]
  cases ia : isNum a
  · simp
  · cases ib : isNum b
    · simp
    · have h1 := isNum_range ia
      have h2 := isNum_range ib
      generalize a.2.1 = x at h1
      generalize b.2.1 = y at h2
      unfold mulF
      have hm := abs_mul x y
      have w1 : (if x < IntKind.i64.wrap (0 - x) then IntKind.i64.wrap (0 - x) else x) = (x.natAbs : Int) := by
        rw [wr (by omega) (by omega)]
        split <;> omega
      have w2 : (if y < IntKind.i64.wrap (0 - y) then IntKind.i64.wrap (0 - y) else y) = (y.natAbs : Int) := by
        rw [wr (by omega) (by omega)]
        split <;> omega
      simp only [w1, w2, Bool.not_true, Bool.false_eq_true, if_false, if_true]
      by_cases hy : y = 0
      · simp [hy, bnd, inB, wr (n := 0) (by decide) (by decide)]
      · have hq0 : 0 < (y.natAbs : Int) := by omega
        rw [if_pos (by simpa using hy), nz_ok (by omega), wdiv hq0]
        by_cases hc : (x * y).natAbs ≤ 1000000000000000
        · rw [ifF (by rw [gt_iff_lt, mul_cond hq0, hm]; omega), if_pos hc, bnd_mul hc]
          rfl
        · rw [ifT (by rw [gt_iff_lt, mul_cond hq0, hm]; omega), if_neg hc]
          rfl
end
theorem sNegated_ok {a : dValue} (ha : a.2.2.1.size ≤ 9223372036854775807) : sNegated a = some ((negV a, ()), ()) := by
  rw [sNegated_eq]
  unfold negV subV two
  have h0 : isNum v0 = true := by decide
  simp only [sl2Num_ok ha, sl2Int_ok, Option.bind_some, h0, if_true]
  cases ia : isNum a
  · have := nonV_bad a
    simp [this]
  · have h1 := isNum_range ia
    simp [v0, wr (n := -a.2.1) (by omega) (by omega)]
theorem iNegated_ok {a : dValue} (ha : a.2.2.1.size ≤ 9223372036854775807) : iNegated a = some ((negV a, ()), ()) := by
  rw [iNegated_eq, show ((0, 0, ({ data := #[] } : ByteArray), ()) : dValue) = v0 from rfl, iLess_ok (by decide) ha]
  rfl
/-! ### Numbers as texts -/
theorem wr8 {n : Int} (h0 : 0 ≤ n) (h1 : n ≤ 255) : IntKind.u8.wrap n = n := by
  simp only [IntKind.wrap, IntKind.bits, IntKind.signed]
  simp
  omega
theorem decLen : ∀ (k u : Nat), u < 10 ^ (k + 1) → (Lib.decDigits u).length ≤ k + 1
  | 0, u, h => by
    have h : u < 10 := by simpa using h
    rw [Lib.decDigits, dif_pos h]
    simp
  | k + 1, u, h => by
    rw [Lib.decDigits]
    split
    · simp
    · have := decLen k (u / 10) (by rw [Nat.pow_succ] at h; exact Nat.div_lt_of_lt_mul (by omega))
      rw [List.length_append]
      simp only [List.length_singleton]
      omega
theorem digit_text {x : Nat} (h : x < 10) : strOfNums ([IntKind.u8.wrap (IntKind.i64.wrap (48 + (x : Int)))] : List Int) = ⟨#[UInt8.ofNat (48 + x)]⟩ := by
  rw [wr (by omega) (by omega), wr8 (by omega) (by omega)]
  unfold strOfNums
  simp only [List.map_cons, List.map_nil]
  congr 3
theorem data_app (a b : ByteArray) : (a ++ b).data = a.data ++ b.data := by simp
theorem ba_ext {a b : ByteArray} (h : a.data.toList = b.data.toList) : a = b := by
  cases a; cases b
  congr 1
  exact Array.toList_inj.1 h
theorem sl1Dec_p4_ok : ∀ (n u : Nat) (acc : ByteArray), u ≤ n → u ≤ 9223372036854775807 → acc.size + n ≤ 9223372036854775806 → sl1Dec_p4 (u : Int) acc = some ((⟨(Lib.decDigits u).toArray⟩ ++ acc, ()), ()) := by
  intro n
  induction n with
  | zero =>
    intro u acc h1 h2 h3
    have : u = 0 := by omega
    subst this
    rw [sl1Dec_p4_eq, ifF (by decide), show ((0 : Nat) : Int) = ((0 : Nat) : Int) from rfl, digit_text (x := 0) (by decide), cats_ok (by simp only [ByteArray.size]; simp; have : acc.data.size = acc.size := rfl; omega)]
    rw [Lib.decDigits, dif_pos (by decide)]
  | succ n ih =>
    intro u acc h1 h2 h3
    rw [sl1Dec_p4_eq]
    have hs : ∀ c : UInt8, (⟨#[c]⟩ : ByteArray).size = 1 := fun _ => rfl
    by_cases h : u < 10
    · rw [ifF (by omega), digit_text h, cats_ok (by rw [hs]; omega)]
      rw [Lib.decDigits, dif_pos h]
    · have e1 : Int.tmod (u : Int) 10 = ((u % 10 : Nat) : Int) := by
        rw [Int.tmod_eq_emod_of_nonneg (by omega)]
        omega
      have e2 : Int.tdiv (u : Int) 10 = ((u / 10 : Nat) : Int) := by
        rw [Int.tdiv_eq_ediv_of_nonneg (by omega)]
        omega
      rw [ifT (by omega), e1, e2, digit_text (Nat.mod_lt _ (by decide)), cats_ok (by rw [hs]; omega), wr (by omega) (by omega), ih (u / 10) _ (by omega) (by omega) (by rw [size_append, hs]; omega)]
      conv => rhs; rw [Lib.decDigits, dif_neg h]
      congr 3
      apply ba_ext
      simp
theorem itoaB_nat (u : Nat) : itoaB (u : Int) = ⟨(Lib.decDigits u).toArray⟩ := by
  unfold itoaB Lib.itoa
  rw [if_neg (by omega)]
  simp
theorem itoaB_neg {n : Int} (h : n < 0) : itoaB n = ⟨#[45]⟩ ++ itoaB (-n) := by
  unfold itoaB Lib.itoa
  rw [if_pos h, if_neg (by omega)]
  apply ba_ext
  simp
  congr 1
  omega
theorem decSize {u : Nat} (h : u ≤ 9223372036854775807) : (⟨(Lib.decDigits u).toArray⟩ : ByteArray).size ≤ 19 := by
  have := decLen 18 u (by omega)
  simpa [ByteArray.size] using this
theorem itoaB_size {n : Int} (h0 : -9223372036854775807 ≤ n) (h1 : n ≤ 9223372036854775807) : (itoaB n).size ≤ 20 := by
  by_cases h : n < 0
  · rw [itoaB_neg h, size_append, show -n = ((-n).toNat : Int) by omega, itoaB_nat]
    have := decSize (u := (-n).toNat) (by omega)
    have h1 : (⟨#[45]⟩ : ByteArray).size = 1 := rfl
    omega
  · rw [show n = (n.toNat : Int) by omega, itoaB_nat]
    have := decSize (u := n.toNat) (by omega)
    omega
theorem sl1Dec_nat {u : Nat} (h : u ≤ 9223372036854775807) : sl1Dec (u : Int) = some ((itoaB (u : Int), ()), ()) := by
  have h19 := decSize h
  rw [sl1Dec_eq, ifF (by omega), itoaB_nat]
  have h2 : ∀ acc : ByteArray, acc.size = 0 → sl1Dec_p4 (u : Int) acc = some ((⟨(Lib.decDigits u).toArray⟩ ++ acc, ()), ()) := by
    intro acc ha
    by_cases hu : u ≤ 9223372036854775806
    · exact sl1Dec_p4_ok u u acc (Nat.le_refl _) h (by omega)
    · have hu : u = 9223372036854775807 := by omega
      subst hu
      have hs : ∀ c : UInt8, (⟨#[c]⟩ : ByteArray).size = 1 := fun _ => rfl
      have e1 : Int.tmod ((9223372036854775807 : Nat) : Int) 10 = ((7 : Nat) : Int) := by decide
      have e2 : Int.tdiv ((9223372036854775807 : Nat) : Int) 10 = ((922337203685477580 : Nat) : Int) := by decide
      rw [sl1Dec_p4_eq, ifT (by decide), e1, e2, digit_text (by decide), cats_ok (by rw [hs]; omega), wr (by omega) (by omega), sl1Dec_p4_ok 922337203685477580 _ _ (by omega) (by omega) (by rw [size_append, hs]; omega)]
      conv => rhs; rw [Lib.decDigits, dif_neg (by decide)]
      congr 3
      apply ba_ext
      simp
  rw [h2 _ rfl]
  congr 3
  apply ba_ext
  simp
theorem sl1Dec_ok {n : Int} (h0 : -9223372036854775807 ≤ n) (h1 : n ≤ 9223372036854775807) : sl1Dec n = some ((itoaB n, ()), ()) := by
  by_cases h : n < 0
  · have hz := itoaB_size (n := -n) (by omega) (by omega)
    have h45 : (⟨#[45]⟩ : ByteArray).size = 1 := rfl
    rw [sl1Dec_eq, ifT h, wr (by omega) (by omega), show (0 - n : Int) = ((-n).toNat : Int) by omega, sl1Dec_nat (by omega), show (((-n).toNat : Nat) : Int) = -n by omega]
    simp only [Option.bind_some]
    rw [cats_ok (by omega), ← itoaB_neg h]
  · rw [show n = (n.toNat : Int) by omega]
    exact sl1Dec_nat (by omega)
theorem idecimal_ok {n : Int} (h0 : -9223372036854775808 ≤ n) (h1 : n ≤ 9223372036854775807) : idecimal n = some ((itoaB n, ()), ()) := by
  rw [idecimal_eq, strconv_FormatInt_eq]
  show (if (10 : Int) = 10 ∧ _ ∧ _ then _ else _ : Option _).bind _ = _
  rw [if_pos ⟨rfl, h0, h1⟩]
  rfl
/-! ### Values as texts -/
def errL : List ByteArray := [(⟨#[]⟩ : ByteArray), (⟨#[35, 68, 73, 86, 33]⟩ : ByteArray), (⟨#[35, 84, 89, 80, 69, 33]⟩ : ByteArray), (⟨#[35, 82, 69, 70, 33]⟩ : ByteArray), (⟨#[35, 79, 86, 69, 82, 33]⟩ : ByteArray), (⟨#[35, 67, 89, 67, 76, 69, 33]⟩ : ByteArray)]
def errT (n : Int) : ByteArray := errL.getD n.toNat eS
theorem sl2Name_ok {n : Int} (h0 : 0 ≤ n) (h1 : n ≤ 5) : sl2Name n = some ((errT n, ()), ()) := by
  rw [sl2Name_eq, inb_ok h0 (by show n < 6; omega)]
  rfl
theorem ierrorText_ok {n : Int} (h0 : 0 ≤ n) (h1 : n ≤ 5) : ierrorText n = some ((errT n, ()), ()) := by
  rw [ierrorText_eq, inb_ok h0 (by show n < 6; omega)]
  rfl
def boolT (n : Int) : ByteArray := if n = 1 then ⟨#[84, 82, 85, 69]⟩ else ⟨#[70, 65, 76, 83, 69]⟩
theorem sl2Bool_ok (n : Int) : sl2Bool n = some ((boolT n, ()), ()) := by
  rw [sl2Bool_eq]
  unfold boolT
  by_cases h : n = 1 <;> simp [h]
/-- The text of a right value. -/
def valT (v : dValue) : ByteArray := if v.1 = 1 then itoaB v.2.1 else if v.1 = 2 then (⟨#[39]⟩ : ByteArray) ++ v.2.2.1 else if v.1 = 3 then boolT v.2.1 else if v.1 = 4 then errT v.2.1 else eS
theorem okVal_1 {v : dValue} (h : okVal v = true) (k : v.1 = 1) : -1000000000000000 ≤ v.2.1 ∧ v.2.1 ≤ 1000000000000000 := by
  unfold okVal at h
  rw [if_neg (by omega), if_neg (by omega), if_pos k] at h
  simp only [Bool.and_eq_true, decide_eq_true_eq] at h
  exact inB_iff.1 h.2
theorem okVal_3 {v : dValue} (h : okVal v = true) (k : v.1 = 3) : 0 ≤ v.2.1 ∧ v.2.1 ≤ 1 := by
  unfold okVal at h
  rw [if_neg (by omega), if_neg (by omega), if_neg (by omega), if_pos k] at h
  simp only [Bool.and_eq_true, decide_eq_true_eq] at h
  exact inB_iff.1 h.2
theorem okVal_4 {v : dValue} (h : okVal v = true) (k : v.1 = 4) : 1 ≤ v.2.1 ∧ v.2.1 ≤ 5 := by
  unfold okVal at h
  rw [if_neg (by omega), if_neg (by omega), if_neg (by omega), if_neg (by omega), if_pos k] at h
  simp only [Bool.and_eq_true, decide_eq_true_eq] at h
  exact inB_iff.1 h.2
theorem okVal_kind {v : dValue} (h : okVal v = true) : v.1 = 0 ∨ v.1 = 1 ∨ v.1 = 2 ∨ v.1 = 3 ∨ v.1 = 4 := by
  unfold okVal at h
  split at h
  · omega
  · simp only [Bool.and_eq_true] at h
    have h := h.2
    split at h
    · omega
    · split at h
      · omega
      · split at h
        · omega
        · split at h
          · omega
          · cases h
theorem errT_size (n : Int) : (errT n).size ≤ 10 := by
  have h : ∀ i : Nat, i < 6 → (errL.getD i eS).size ≤ 10 := by decide
  unfold errT
  by_cases hn : n.toNat < 6
  · exact h _ hn
  · rw [List.getD_eq_getElem?_getD, List.getElem?_eq_none (by show 6 ≤ n.toNat; omega)]
    decide
theorem valT_size {v : dValue} (h : okVal v = true) : (valT v).size ≤ 201 := by
  have hs := okVal_size h
  unfold valT
  split
  · have := okVal_1 h ‹_›
    exact Nat.le_trans (itoaB_size (by omega) (by omega)) (by decide)
  · split
    · rw [size_append]
      have : (⟨#[39]⟩ : ByteArray).size = 1 := rfl
      omega
    · split
      · unfold boolT
        split <;> decide
      · split
        · exact Nat.le_trans (errT_size _) (by decide)
        · decide
theorem cat39 {β : Type} {s : ByteArray} {f : ByteArray → Option β} (h : s.size ≤ 9223372036854775806) : cats (⟨#[39]⟩ : ByteArray) s f = f ((⟨#[39]⟩ : ByteArray) ++ s) := cats_ok (by
  have : (⟨#[39]⟩ : ByteArray).size = 1 := rfl
  omega)
theorem sValueText_ok {v : dValue} (hs : v.2.2.1.size ≤ 9223372036854775807) : sValueText v = some ((if okVal v = true then valT v else eS, ()), ()) := by
  rw [sValueText_eq, sValueOk_ok hs, Option.bind_some]
  unfold valT
  cases h : okVal v
  · rfl
  · have hz := okVal_size h
    simp only [Bool.not_true, Bool.false_eq_true, if_false, if_true, beq_iff_eq]
    by_cases h1 : v.1 = 1
    · have := okVal_1 h h1
      simp [h1, sl1Dec_ok (n := v.2.1) (by omega) (by omega)]
    by_cases h2 : v.1 = 2
    · simp only [h2, if_true, cat39 (s := v.2.2.1) (by omega)]
      rfl
    by_cases h3 : v.1 = 3
    · simp [h3, sl2Bool_ok]
    by_cases h4 : v.1 = 4
    · have := okVal_4 h h4
      simp [h4, sl2Name_ok (n := v.2.1) (by omega) (by omega)]
    simp [h1, h2, h3, h4]
theorem ivalueText_ok {v : dValue} (h : okVal v = true) : ivalueText v = some ((valT v, ()), ()) := by
  rw [ivalueText_eq]
  unfold valT
  have hz := okVal_size h
  simp only [beq_iff_eq]
  by_cases h1 : v.1 = 1
  · have := okVal_1 h h1
    simp [h1, idecimal_ok (n := v.2.1) (by omega) (by omega)]
  by_cases h2 : v.1 = 2
  · simp only [h2, if_true, cat39 (s := v.2.2.1) (by omega)]
    rfl
  by_cases h3 : v.1 = 3
  · have := okVal_3 h h3
    simp only [h3, if_true]
    rw [if_neg (by decide), if_neg (by decide), if_neg (by decide), if_neg (by decide), inb_ok (by omega) (by show v.2.1 < 2; omega)]
    unfold boolT
    by_cases h5 : v.2.1 = 1
    · rw [h5]
      rfl
    · rw [show v.2.1 = 0 by omega]
      rfl
  by_cases h4 : v.1 = 4
  · have := okVal_4 h h4
    simp [h4, ierrorText_ok (n := v.2.1) (by omega) (by omega)]
  simp [h1, h2, h3, h4]
theorem iValueText_ok {v : dValue} (hs : v.2.2.1.size ≤ 9223372036854775807) : iValueText v = some ((if okVal v = true then valT v else eS, ()), ()) := by
  rw [iValueText_eq, iValueOk_ok hs, Option.bind_some]
  cases h : okVal v
  · rfl
  · rw [ivalueText_ok h]
    rfl
/-! ### Texts joined -/
def isTx (v : dValue) : Bool := okVal v && !decide (v.1 = 4)
def txt (v : dValue) : ByteArray := if v.1 = 2 then v.2.2.1 else valT v
theorem txt_size {v : dValue} (h : okVal v = true) : (txt v).size ≤ 201 := by
  unfold txt
  split
  · exact Nat.le_trans (okVal_size h) (by decide)
  · exact valT_size h
theorem iasText_ok {v : dValue} (hs : v.2.2.1.size ≤ 9223372036854775807) : ∃ t, iasText v = some ((t, isTx v, ()), ()) ∧ (isTx v = true → t = txt v) := by
  rw [iasText_eq]
  unfold isTx txt
  simp only [iValueOk_ok hs, iValueText_ok hs, Option.bind_some, beq_iff_eq]
  by_cases h2 : v.1 = 2
  · refine ⟨_, by simp [h2]; rfl, fun _ => by simp [h2]⟩
  · cases h : okVal v
    · exact ⟨_, by simp [h2]; rfl, fun h => by cases h⟩
    · refine ⟨valT v, ?_, fun _ => by simp [h2]⟩
      simp only [h2, if_false, if_true, Bool.true_and]
      rfl
theorem sl2Word_ok {v : dValue} (hs : v.2.2.1.size ≤ 9223372036854775807) : sl2Word v = some ((if isTx v = true then txt v else eS, if isTx v = true then v0 else nonV v, ()), ()) := by
  rw [sl2Word_eq]
  unfold isTx txt nonV
  simp only [sValueOk_ok hs, sl2Error_ok, sValueText_ok hs, Option.bind_some, beq_iff_eq]
  cases h : okVal v
  · rfl
  · by_cases h4 : v.1 = 4
    · simp [h4]
    · by_cases h2 : v.1 = 2 <;> simp [h2, h4, v0]
theorem isTx_ok {v : dValue} (h : isTx v = true) : okVal v = true := by
  unfold isTx at h
  simp only [Bool.and_eq_true] at h
  exact h.1
def joinV (a b : dValue) : dValue := if isTx a = true then (if isTx b = true then (if 200 < (txt a).size + (txt b).size then vE 4 else vT (txt a ++ txt b)) else nonV b) else nonV a
section
variable {a b : dValue} (ha : a.2.2.1.size ≤ 9223372036854775807) (hb : b.2.2.1.size ≤ 9223372036854775807)
include ha hb
theorem sJoined_ok : sJoined a b = some ((joinV a b, ()), ()) := by
  rw [sJoined_eq]
  unfold joinV
  simp only [sl2Word_ok ha, sl2Word_ok hb, sl2Error_ok, Option.bind_some, bne_iff_ne, ne_eq]
  cases ia : isTx a
  · have := nonV_bad a
    simp [this]
  · cases ib : isTx b
    · have := nonV_bad b
      simp [this, v0]
    · have h1 := txt_size (isTx_ok ia)
      have h2 := txt_size (isTx_ok ib)
      simp only [if_true, v0, not_true, if_false]
      rw [wr (by omega) (by omega)]
      by_cases hc : 200 < (txt a).size + (txt b).size
      · rw [ifT (by omega), if_pos hc]
      · rw [ifF (by omega), if_neg hc, cats_ok (by omega)]
        rfl
theorem iJoined_ok : iJoined a b = some ((joinV a b, ()), ()) := by
  rw [iJoined_eq]
  unfold joinV
  obtain ⟨t, e1, e2⟩ := iasText_ok ha
  obtain ⟨u, e3, e4⟩ := iasText_ok hb
  simp only [e1, e3, inone_ok ha, inone_ok hb, ifault_ok, Option.bind_some]
  cases ia : isTx a
  · simp
  · cases ib : isTx b
    · simp
    · have h1 := txt_size (isTx_ok ia)
      have h2 := txt_size (isTx_ok ib)
      rw [e2 ia, e4 ib]
      simp only [if_true, Bool.not_true, Bool.false_eq_true, if_false]
      rw [wr (by omega) (by omega)]
      by_cases hc : 200 < (txt a).size + (txt b).size
      · rw [ifT (by omega), if_pos hc]
      · rw [ifF (by omega), if_neg hc, cats_ok (by omega)]
        rfl
end
/-! ### Order -/
def cmpI (x y : Int) : Int := if x < y then -1 else if y < x then 1 else 0
def cmpS (x y : ByteArray) : Int := if ltS x y = true then -1 else if x = y then 0 else 1
def ordV (a b : dValue) : Int := if a.1 ≠ b.1 then cmpI a.1 b.1 else if a.2.1 ≠ b.2.1 then cmpI a.2.1 b.2.1 else cmpS a.2.2.1 b.2.2.1
theorem sl2Sign_ok (p q : Bool) : sl2Sign p q = some ((if p = true then -1 else if q = true then 1 else 0, ()), ()) := by
  rw [sl2Sign_eq]
  cases p <;> cases q <;> rfl
theorem sOrder_ok (a b : dValue) : sOrder a b = some ((ordV a b, ()), ()) := by
  rw [sOrder_eq]
  unfold ordV cmpI cmpS
  simp only [sl2Sign_ok, Option.bind_some, bne_iff_ne, decide_eq_true_eq, eqS]
  by_cases h1 : a.1 = b.1
  · by_cases h2 : a.2.1 = b.2.1
    · simp only [h1, h2, ne_eq, not_true, if_false]
      change _ = some ((if ltS a.2.2.1 b.2.2.1 = true then _ else _, ()), ())
      change some ((if ltS a.2.2.1 b.2.2.1 = true then _ else if (!(ltS a.2.2.1 b.2.2.1 || _)) = true then _ else _, ()), ()) = _
      cases ltS a.2.2.1 b.2.2.1
      · by_cases h3 : a.2.2.1 = b.2.2.1 <;> simp [h3]
      · rfl
    · simp only [h1, h2, ne_eq, not_true, not_false_eq_true, if_false, if_true]
      by_cases h3 : a.2.1 < b.2.1
      · simp [h3]
      · have h4 : b.2.1 < a.2.1 := by omega
        simp [h3, h4]
  · simp only [h1, ne_eq, not_true, not_false_eq_true, if_true]
    by_cases h3 : a.1 < b.1
    · simp [h3]
    · have h4 : b.1 < a.1 := by omega
      simp [h3, h4]
theorem cmpInt_ok (x y : Int) : cmp_Compare_int64 x y = some ((cmpI x y, ()), ()) := by
  rw [cmp_Compare_int64_eq, cmp_isNaN_int64_eq, cmp_isNaN_int64_eq]
  unfold cmpI
  simp
  by_cases h : x < y
  · simp [h]
  · by_cases h2 : y < x <;> simp [h, h2]
theorem cmpStr_ok (x y : ByteArray) : cmp_Compare_string x y = some ((cmpS x y, ()), ()) := by
  rw [cmp_Compare_string_eq, cmp_isNaN_string_eq, cmp_isNaN_string_eq]
  unfold cmpS
  simp only [eqS, decide_true, Bool.not_true, Option.bind_some, Bool.false_eq_true, if_false]
  change (if ltS x y = true then _ else if (!(ltS x y || _)) = true then _ else _) = _
  cases ltS x y
  · by_cases h3 : x = y <;> simp [h3]
  · rfl
theorem cmpOr_at {l : List Int} (hl : l.length ≤ 100) : ∀ (ys pre : List Int), l = pre ++ ys → cmp_Or_int_p3 0 l (l.length : Int) (pre.length : Int) = some (((ys.find? fun y => decide (y ≠ 0)).getD 0, ()), ())
  | [], pre, he => by
    rw [cmp_Or_int_p3_eq, ifF (nlt_at he)]
    rfl
  | y :: ys, pre, he => by
    rw [cmp_Or_int_p3_eq, ifT (lt_at he), ix_at he, wrap_at he (by omega), cmpOr_at hl ys _ (next_at he)]
    by_cases h : y = 0
    · simp [h]
    · simp [h]
theorem cmpOr_ok {l : List Int} (hl : l.length ≤ 100) : cmp_Or_int l = some (((l.find? fun y => decide (y ≠ 0)).getD 0, ()), ()) := by
  rw [cmp_Or_int_eq]
  exact cmpOr_at hl l [] rfl
theorem cmpI_0 {x y : Int} : cmpI x y = 0 ↔ x = y := by
  unfold cmpI
  split
  · omega
  · split <;> omega
theorem iOrder_ok (a b : dValue) : iOrder a b = some ((ordV a b, ()), ()) := by
  rw [iOrder_eq]
  simp only [cmpInt_ok, cmpStr_ok, Option.bind_some]
  rw [cmpOr_ok (by simp)]
  unfold ordV
  by_cases h1 : a.1 = b.1
  · have e1 := cmpI_0.2 h1
    rw [if_neg (by simp [h1])]
    by_cases h2 : a.2.1 = b.2.1
    · have e2 := cmpI_0.2 h2
      rw [if_neg (by simp [h2])]
      by_cases h3 : cmpS a.2.2.1 b.2.2.1 = 0 <;> simp [List.find?, e1, e2, h3]
    · have e2 : cmpI a.2.1 b.2.1 ≠ 0 := fun h => h2 (cmpI_0.1 h)
      rw [if_pos (by simp [h2])]
      simp [List.find?, e1, e2]
  · have e1 : cmpI a.1 b.1 ≠ 0 := fun h => h1 (cmpI_0.1 h)
    rw [if_pos (by simp [h1])]
    simp [List.find?, e1]
/-- A blank as what stands beside it wants it. -/
def like (a b : dValue) : dValue := if a.1 = 0 then (b.1, a.2.1, a.2.2.1, ()) else a
def rel (op o : Int) : Bool := if op = 6 then decide (o = 0) else if op = 7 then !decide (o = 0) else if op = 8 then decide (o < 0) else if op = 9 then decide (o ≤ 0) else if op = 10 then decide (0 < o) else decide (0 ≤ o)
def heldV (op : Int) (a b : dValue) : dValue := if okVal a = true then (if okVal b = true then (if inB op 6 11 = true then (if a.1 = 4 then a else if b.1 = 4 then b else vB (rel op (ordV (like a b) (like b a)))) else vE 2) else vE 2) else vE 2
theorem sl2Like_ok (a b : dValue) : sl2Like a b = some ((like a b, ()), ()) := by
  rw [sl2Like_eq]
  unfold like
  by_cases h : a.1 = 0 <;> simp [h]
theorem relAt {op o : Int} (h : inB op 6 11 = true) : List.getD [(o == 0), (o != 0), decide (o < 0), decide (o ≤ 0), decide (o > 0), decide (o ≥ 0)] (Int.toNat (IntKind.i64.wrap (op - 6))) false = rel op o := by
  have := inB_iff.1 h
  rw [wr (by omega) (by omega)]
  have h6 : op = 6 ∨ op = 7 ∨ op = 8 ∨ op = 9 ∨ op = 10 ∨ op = 11 := by omega
  rcases h6 with rfl | rfl | rfl | rfl | rfl | rfl <;> rfl
section
variable {op : Int} {a b : dValue} (ha : a.2.2.1.size ≤ 9223372036854775807) (hb : b.2.2.1.size ≤ 9223372036854775807)
include ha hb
theorem sHeld_ok : sHeld op a b = some ((heldV op a b, ()), ()) := by
  rw [sHeld_eq]
  unfold heldV rel
  simp only [sValueOk_ok ha, sValueOk_ok hb, sl2Error_ok, sl1In_ok, sl2Like_ok, sOrder_ok, sl2Flag_ok, Option.bind_some, beq_iff_eq]
  cases okVal a
  · rfl
  cases okVal b
  · rfl
  cases inB op 6 11
  · rfl
  simp only [Bool.not_true, Bool.false_eq_true, if_false, if_true]
  by_cases h1 : a.1 = 4
  · simp [h1]
  by_cases h2 : b.1 = 4
  · simp [h1, h2]
  simp only [h1, h2, if_false]
  by_cases o6 : op = 6
  · simp [o6, beqI]
  by_cases o7 : op = 7
  · simp [o7]; rfl
  by_cases o8 : op = 8
  · simp [o8]
  by_cases o9 : op = 9
  · simp [o9]
  by_cases o10 : op = 10
  · simp [o10]
  simp [o6, o7, o8, o9, o10]
theorem iHeld_ok : iHeld op a b = some ((heldV op a b, ()), ()) := by
  rw [iHeld_eq]
  unfold heldV
  simp only [iValueOk_ok ha, iValueOk_ok hb, ifault_ok, iwithin_ok, iOrder_ok, Option.bind_some, beq_iff_eq]
  cases okVal a
  · rfl
  cases okVal b
  · rfl
  cases hi : inB op 6 11
  · rfl
  have hio := inB_iff.1 hi
  simp only [Bool.not_true, Bool.false_eq_true, if_false, if_true]
  by_cases h1 : a.1 = 4
  · simp [h1]
  by_cases h2 : b.1 = 4
  · simp [h1, h2]
  have hin : ∀ (x1 x2 x3 x4 x5 x6 : Bool) (k : Option ((dValue × Unit) × Unit)), inb [x1, x2, x3, x4, x5, x6] (IntKind.i64.wrap (op - 6)) k = k := fun x1 x2 x3 x4 x5 x6 k => by
    rw [wr (by omega) (by omega)]
    exact inb_ok (by omega) (by show op - 6 < 6; omega)
  simp only [h1, h2, if_false, hin, relAt hi, itruth_ok, Option.bind_some]
  unfold like
  by_cases h3 : a.1 = 0
  · by_cases h4 : b.1 = 0
    · have eb : ((0, b.2.1, b.2.2.1, ()) : dValue) = b := by rw [← h4]
      simp only [h3, h4, if_true, eb]
    · simp [h3, h4]
  · by_cases h4 : b.1 = 0
    · simp [h3, h4]
    · simp [h3, h4]
end
end Go.Proofs.YtiligfmembmapaaGreatDoor.Abs
