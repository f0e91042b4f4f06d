/- Plain laws: sums and counts of two pieces; a choice; short formulas by their texts. -/
import Derived.Test.YtiligfmembmapaaGreatDoorZP6
import Derived.Test.YtiligfmembmapaaGreatDoorZPT38
import Derived.Test.YtiligfmembmapaaGreatDoorZP7
set_option linter.unusedVariables false
set_option linter.unusedSimpArgs false
set_option linter.unusedSectionVars false
namespace Go.Proofs.YtiligfmembmapaaGreatDoor.Abs
open Go

/-! ### Areas in two pieces -/
theorem filter_two {p q r : dCellValue → Bool} (h : ∀ c, r c = (p c || q c)) (hpq : ∀ c d, q c = true → p d = true → ahead c.1 d.1 = false) (hd : ∀ c, p c = true → q c = false) : ∀ {l : List dCellValue}, ((l.map (·.1)).Pairwise fun a b => ahead a b = true) → l.filter r = l.filter p ++ l.filter q
  | [], _ => rfl
  | c :: l, hl => by
    rw [List.map_cons] at hl
    have hl' := List.pairwise_cons.1 hl
    have ih := filter_two h hpq hd hl'.2
    rw [List.filter_cons, List.filter_cons, List.filter_cons, h c]
    cases hp : p c with
    | true =>
      rw [hd c hp]
      simp [ih]
    | false =>
      cases hq : q c with
      | false => simpa using ih
      | true =>
        have hn : l.filter p = [] := by
          rw [List.filter_eq_nil_iff]
          intro d hd' k
          have e := hpq c d hq k
          rw [hl'.1 d.1 (List.mem_map_of_mem hd')] at e
          cases e
        rw [hn] at ih ⊢
        simpa using ih
theorem inA_iff {a : dArea} {r : dRef} : inA a r = true ↔ (a.1.1 ≤ r.1 ∧ r.1 ≤ a.2.1.1) ∧ a.1.2.1 ≤ r.2.1 ∧ r.2.1 ≤ a.2.1.2.1 := by
  unfold inA
  rw [Bool.and_eq_true, inB_iff, inB_iff]
/-- Rows m to n of some columns are rows m to k and the rows below. -/
theorem vals_two {a b m k n : Int} (hk : m ≤ k) (hn : k ≤ n) {l : List dCellValue} (hl : (l.map (·.1)).Pairwise fun a b => ahead a b = true) : valsIn l ((a, m, ()), (b, n, ()), ()) = valsIn l ((a, m, ()), (b, k, ()), ()) ++ valsIn l ((a, k + 1, ()), (b, n, ()), ()) := by
  unfold valsIn
  rw [filter_two (p := fun c => inA ((a, m, ()), (b, k, ()), ()) c.1) (q := fun c => inA ((a, k + 1, ()), (b, n, ()), ()) c.1) ?_ ?_ ?_ hl, List.map_append]
  · intro c
    rw [Bool.eq_iff_iff, Bool.or_eq_true, inA_iff, inA_iff, inA_iff]
    dsimp only
    omega
  · intro c d hc hd
    rw [inA_iff] at hc hd
    dsimp only at hc hd
    unfold ahead
    rw [Bool.or_eq_false_iff, Bool.and_eq_false_iff, decide_eq_false_iff_not, decide_eq_false_iff_not, decide_eq_false_iff_not]
    omega
  · intro c hc
    rw [Bool.eq_false_iff]
    intro hd
    rw [inA_iff] at hc hd
    dsimp only at hc hd
    omega

/-! ### Sums and counts -/
/-- The sum of the numbers among some values. -/
def totV : List dValue → Int
  | [] => 0
  | v :: l => (if v.1 = 1 then v.2.1 else 0) + totV l
def cntV : List dValue → Int
  | [] => 0
  | v :: l => (if v.1 = 1 then 1 else 0) + cntV l
theorem tot_app (xs ys : List dValue) : totV (xs ++ ys) = totV xs + totV ys := by
  induction xs with
  | nil => simp [totV]
  | cons v l ih => simp only [List.cons_append, totV, ih]; omega
theorem cnt_app (xs ys : List dValue) : cntV (xs ++ ys) = cntV xs + cntV ys := by
  induction xs with
  | nil => simp [cntV]
  | cons v l ih => simp only [List.cons_append, cntV, ih]; omega
theorem cnt_le (xs : List dValue) : 0 ≤ cntV xs ∧ cntV xs ≤ xs.length := by
  induction xs with
  | nil => simp [cntV]
  | cons v l ih =>
    simp only [cntV, List.length_cons]
    split <;> omega
theorem isNum_vN {n : Int} (h : okVal (vN n) = true) : isNum (vN n) = true := by
  unfold isNum
  rw [h]
  rfl
theorem add_vN {m n : Int} (hm : okVal (vN m) = true) (hn : okVal (vN n) = true) : addV (vN m) (vN n) = bnd (m + n) := by
  unfold addV two
  rw [isNum_vN hm, isNum_vN hn]
  rfl
theorem bnd_1 {n : Int} (h : (bnd n).1 ≠ 4) : bnd n = vN n ∧ okVal (vN n) = true := by
  have := okBnd n
  unfold bnd at h this ⊢
  split at h
  · rename_i k
    rw [if_pos k] at this
    rw [if_pos k]
    exact ⟨rfl, this⟩
  · exact absurd rfl h
theorem okVal_1N {v : dValue} (h : okVal v = true) (k : v.1 = 1) : v = vN v.2.1 := by
  have hs := okVal_S h (by omega)
  obtain ⟨a, b, c, u⟩ := v
  simp only at k hs
  subst k hs
  rfl
theorem sum_kind : ∀ {l : List dValue} {n : Int}, (∀ v ∈ l, okVal v = true) → okVal (vN n) = true → (sumL l (vN n)).1 = 4 ∨ sumL l (vN n) = vN (n + totV l) ∧ okVal (vN (n + totV l)) = true
  | [], n, _, hn => by
    right
    have e : n + totV [] = n := by simp [totV]
    rw [e]
    exact ⟨rfl, hn⟩
  | v :: l, n, hv, hn => by
    have hv0 := hv v List.mem_cons_self
    have hvl : ∀ v ∈ l, okVal v = true := fun w hw => hv w (List.mem_cons_of_mem _ hw)
    rw [sumL_cons]
    by_cases h4 : v.1 = 4
    · rw [if_pos h4]
      exact .inl h4
    · rw [if_neg h4]
      by_cases h1 : v.1 = 1
      · have hvN := okVal_1N hv0 h1
        have hok : okVal (vN v.2.1) = true := by rw [← hvN]; exact hv0
        rw [if_pos h1]
        have ha : addV (vN n) v = bnd (n + v.2.1) := by
          rw [show addV (vN n) v = addV (vN n) (vN v.2.1) from congrArg _ hvN, add_vN hn hok]
        rw [ha]
        by_cases hb : (bnd (n + v.2.1)).1 = 4
        · rw [if_pos hb]
          exact .inl hb
        · obtain ⟨e1, e2⟩ := bnd_1 hb
          rw [if_neg hb, e1]
          have := sum_kind hvl e2
          have e : n + totV (v :: l) = n + v.2.1 + totV l := by
            simp only [totV]
            rw [if_pos h1]
            omega
          rw [e]
          exact this
      · rw [if_neg h1]
        have := sum_kind hvl hn
        have e : n + totV (v :: l) = n + totV l := by
          simp only [totV]
          rw [if_neg h1]
          omega
        rw [e]
        exact this
theorem cnt_ok : ∀ (xs : List dValue) (l m c : Int), 0 ≤ c → gatL 4 xs l m c = vN (c + cntV xs)
  | [], l, m, c, _ => by
    simp [gatL, cntV]
  | v :: t, l, m, c, hc => by
    rw [gatL_cons, if_neg (by simp)]
    by_cases h1 : v.1 = 1
    · rw [if_pos h1]
      have e : c + cntV (v :: t) = (c + 1) + cntV t := by
        simp only [cntV]
        rw [if_pos h1]
        omega
      by_cases h0 : c = 0
      · rw [if_pos h0, cnt_ok t _ _ 1 (by decide), e, h0]
        rfl
      · rw [if_neg h0, cnt_ok t _ _ (c + 1) (by omega), e]
    · rw [if_neg h1, cnt_ok t _ _ c hc]
      have e : c + cntV (v :: t) = c + cntV t := by
        simp only [cntV]
        rw [if_neg h1]
        omega
      rw [e]

/-! ### Short formulas -/
def nCell (c r : Int) : dFNode := (2, 0, v0, ((c, r, ()), false, false, ()), p0, [], ())
def nArea (a b c d : Int) : dFNode := (3, 0, v0, ((a, b, ()), false, false, ()), ((c, d, ()), false, false, ()), [], ())
def nCall (op : Int) (ks : List Int) : dFNode := (6, op, v0, p0, p0, ks, ())
def nBin (op : Int) (ks : List Int) : dFNode := (5, op, v0, p0, p0, ks, ())
theorem told_ok {f : List dFNode} {t : ByteArray} {l : List dCellValue} (h : okF f = true) (ht : ba (fT f) = t) (h200 : (fT f).length ≤ 200) (hl : l.length ≤ 120) (hlz : ∀ c ∈ l, c.2.1.2.2.1.size ≤ 9223372036854775807) : wtold t l = some ((evalV f l, ()), ()) := by
  have hs := okF_small h
  have hf := hs.1
  rw [wtold_eq, ← ht, read_text h h200]
  simp only [Option.bind_some, Bool.not_true, Bool.false_eq_true, if_false]
  rw [iEval_ok (by omega) hlz (by omega) (fun x hx => Nat.le_trans (hs.2 x hx).1 (by decide)) (fun x hx => Nat.le_trans (hs.2 x hx).2 (by decide))]
  rfl
def fA (op r s : Int) : List dFNode := [nArea 1 r 3 s, nCall op [0]]
def fE : List dFNode := [nCell 1 1, nCell 2 1, nBin 6 [0, 1]]
def fI : List dFNode := [nCell 1 1, nCell 2 1, nBin 6 [0, 1], nCell 3 1, nCell 3 2, nCall 5 [2, 3, 4]]
def fN : List dFNode := [nCell 1 1, nCell 2 1, nBin 6 [0, 1], nCall 8 [2], nCall 8 [3]]
def fC (r : Int) : List dFNode := [nCell 3 r]
theorem ok14 : okF (fA 1 1 4) = true ∧ fT (fA 1 1 4) = [83, 85, 77, 40, 65, 49, 58, 67, 52, 41] := by decide +kernel
theorem ok12 : okF (fA 1 1 2) = true ∧ fT (fA 1 1 2) = [83, 85, 77, 40, 65, 49, 58, 67, 50, 41] := by decide +kernel
theorem ok34 : okF (fA 1 3 4) = true ∧ fT (fA 1 3 4) = [83, 85, 77, 40, 65, 51, 58, 67, 52, 41] := by decide +kernel
theorem okC14 : okF (fA 4 1 4) = true ∧ fT (fA 4 1 4) = [67, 79, 85, 78, 84, 40, 65, 49, 58, 67, 52, 41] := by decide +kernel
theorem okC12 : okF (fA 4 1 2) = true ∧ fT (fA 4 1 2) = [67, 79, 85, 78, 84, 40, 65, 49, 58, 67, 50, 41] := by decide +kernel
theorem okC34 : okF (fA 4 3 4) = true ∧ fT (fA 4 3 4) = [67, 79, 85, 78, 84, 40, 65, 51, 58, 67, 52, 41] := by decide +kernel
theorem okE : okF fE = true ∧ fT fE = [65, 49, 61, 66, 49] := by decide +kernel
theorem okI : okF fI = true ∧ fT fI = [73, 70, 40, 65, 49, 61, 66, 49, 44, 67, 49, 44, 67, 50, 41] := by decide +kernel
theorem okNN : okF fN = true ∧ fT fN = [78, 79, 84, 40, 78, 79, 84, 40, 65, 49, 61, 66, 49, 41, 41] := by decide +kernel
theorem okC1 : okF (fC 1) = true ∧ fT (fC 1) = [67, 49] := by decide +kernel
theorem okC2 : okF (fC 2) = true ∧ fT (fC 2) = [67, 50] := by decide +kernel
def nz0 (v : dValue) : dValue := if v.1 = 0 then vN 0 else v
theorem ev_area (op r s : Int) (l : List dCellValue) : evF 2 (fA op r s) l 1 = callV op 1 (fun i => evF 1 (fA op r s) l (([0] : List Int).getD i 0)) (valsIn l ((1, r, ()), (3, s, ()), ()) ++ []) := rfl
theorem eval_sum (r s : Int) (l : List dCellValue) : evalF (fA 1 r s) l = nz0 (sumL (valsIn l ((1, r, ()), (3, s, ()), ())) (vN 0)) := by
  show nz0 (evF 2 (fA 1 r s) l 1) = _
  rw [ev_area, List.append_nil]
  rfl
theorem eval_cnt (r s : Int) (l : List dCellValue) : evalF (fA 4 r s) l = nz0 (gatL 4 (valsIn l ((1, r, ()), (3, s, ()), ())) 0 0 0) := by
  show nz0 (evF 2 (fA 4 r s) l 1) = _
  rw [ev_area, List.append_nil]
  rfl
/-- What A1=B1 says. -/
noncomputable def eqV (l : List dCellValue) : dValue := heldV 6 (lookV l (1, 1, ())) (lookV l (2, 1, ()))
theorem eval_E (l : List dCellValue) : evalF fE l = nz0 (eqV l) := rfl
theorem eval_C (r : Int) (l : List dCellValue) : evalF (fC r) l = nz0 (lookV l (3, r, ())) := rfl
theorem eval_I (l : List dCellValue) : evalF fI l = nz0 (if isTru (eqV l) = true then (if (eqV l).2.1 ≠ 0 then lookV l (3, 1, ()) else lookV l (3, 2, ())) else nonV (eqV l)) := rfl
def notV (v : dValue) : dValue := if isTru v = true then vB (!decide (v.2.1 ≠ 0)) else nonV v
theorem eval_N (l : List dCellValue) : evalF fN l = nz0 (notV (notV (eqV l))) := rfl
theorem eqV_cases {l : List dCellValue} (hv : ∀ c ∈ l, okVal c.2.1 = true) : (∃ b, eqV l = vB b) ∨ ((eqV l).1 = 4 ∧ okVal (eqV l) = true) := by
  have h1 := lookV_ok (r := (1, 1, ())) hv
  have h2 := lookV_ok (r := (2, 1, ())) hv
  unfold eqV heldV
  rw [if_pos h1, if_pos h2, if_pos (by decide)]
  by_cases a : (lookV l (1, 1, ())).1 = 4
  · rw [if_pos a]
    exact .inr ⟨a, h1⟩
  · rw [if_neg a]
    by_cases b : (lookV l (2, 1, ())).1 = 4
    · rw [if_pos b]
      exact .inr ⟨b, h2⟩
    · rw [if_neg b]
      exact .inl ⟨_, rfl⟩
theorem not_err {v : dValue} (h : v.1 = 4) (k : okVal v = true) : notV v = v := by
  unfold notV isTru nonV
  rw [k, h]
  rfl
theorem not_B (b : Bool) : notV (vB b) = vB (!b) := by cases b <;> rfl
end Go.Proofs.YtiligfmembmapaaGreatDoor.Abs
