/- What a formula says: both sides. -/
import Derived.Test.YtiligfmembmapaaGreatDoorZPE2
set_option linter.unusedVariables false
set_option linter.unusedSimpArgs false
set_option linter.unusedSectionVars false
namespace Go.Proofs.YtiligfmembmapaaGreatDoor.Abs
open Go

def inA (a : dArea) (r : dRef) : Bool := inB r.1 a.1.1 a.2.1.1 && inB r.2.1 a.1.2.1 a.2.1.2.1
def areaOf (x : dFNode) : dArea := if x.1 = 2 then (x.2.2.2.1.1, x.2.2.2.1.1, ()) else (x.2.2.2.1.1, x.2.2.2.2.1.1, ())
theorem sl1Within_ok (r : dRef) (a : dArea) : sl1Within r a = some ((inA a r, ()), ()) := by
  rw [sl1Within_eq]
  unfold inA
  simp only [sl1In_ok, Option.bind_some]
  cases inB r.1 a.1.1 a.2.1.1 <;> simp
theorem iArea_has_ok (a : dArea) (r : dRef) : iArea_has a r = some ((inA a r, ()), ()) := by
  rw [iArea_has_eq]
  unfold inA
  simp only [iwithin_ok, Option.bind_some]
  cases inB r.1 a.1.1 a.2.1.1 <;> simp
theorem iFNode_area_ok (x : dFNode) : iFNode_area x = some ((areaOf x, ()), ()) := by
  rw [iFNode_area_eq]
  unfold areaOf
  by_cases h : x.1 = 2 <;> simp [h]
/-- The values of an area. -/
def valsIn (l : List dCellValue) (a : dArea) : List dValue := (l.filter fun c => inA a c.1).map fun c => c.2.1
def nodeAt (f : List dFNode) (k : Int) : dFNode := f.getD k.toNat tFNode.dflt
def argsV (ev : Int → dValue) (f : List dFNode) (l : List dCellValue) : List Int → List dValue
  | [] => []
  | k :: ks => (if (nodeAt f k).1 = 3 then valsIn l (areaOf (nodeAt f k)) else [ev k]) ++ argsV ev f l ks
def callV (op : Int) (n : Int) (kid : Nat → dValue) (args : List dValue) : dValue :=
  if op = 5 then (if isTru (kid 0) = true then (if (kid 0).2.1 ≠ 0 then kid 1 else if n > 2 then kid 2 else vB false) else nonV (kid 0))
  else if op = 8 then (if isTru (kid 0) = true then vB (!decide ((kid 0).2.1 ≠ 0)) else nonV (kid 0))
  else if op = 9 then (if isNum (kid 0) = true then vN ((kid 0).2.1.natAbs : Int) else nonV (kid 0))
  else if op = 10 then (if isTx (kid 0) = true then vN ((txt (kid 0)).size : Int) else nonV (kid 0))
  else foldV op args
def binV (op : Int) (a b : dValue) : dValue := if op = 1 then addV a b else if op = 2 then subV a b else if op = 3 then mulV a b else if op = 4 then divV a b else if op = 5 then joinV a b else heldV op a b
def evF : Nat → List dFNode → List dCellValue → Int → dValue
  | 0, _, _, _ => v0
  | n + 1, f, l, k =>
    let x := nodeAt f k
    let kid := fun i : Nat => evF n f l (x.2.2.2.2.2.1.getD i 0)
    if x.1 = 1 then x.2.2.1 else if x.1 = 2 then lookV l x.2.2.2.1.1 else if x.1 = 3 then vE 2 else if x.1 = 4 then negV (kid 0)
    else if x.1 = 6 then callV x.2.1 (kl x) kid (argsV (evF n f l) f l x.2.2.2.2.2.1) else binV x.2.1 (kid 0) (kid 1)
theorem mul32' {n : Nat} (h : n ≤ 4398046511104) : n * 32 ≤ 140737488355328 := mul32 h
section
variable {f : List dFNode} {l : List dCellValue} (hl : l.length ≤ 1000) (hf : f.length ≤ 10000000)
include hl hf
theorem sl6Args_area {k : Int} {i : Int} {a : dArea} : ∀ (ys pre : List dCellValue) (acc : List dValue), l = pre ++ ys → acc.length + ys.length ≤ 1000000 → sl6Args_p10 f k l i (pre.length : Int) acc a.1 a.2.1 = sl6Args_p3 f k l (IntKind.i64.wrap (i + 1)) (acc ++ valsIn ys a)
  | [], pre, acc, he, hb => by
    rw [sl6Args_p10_eq, ifF (nlt_at he)]
    simp [valsIn]
  | y :: ys, pre, acc, he, hb => by
    have hb' : acc.length + (ys.length + 1) ≤ 1000000 := by simpa using hb
    rw [sl6Args_p10_eq, ifT (lt_at he), ix_at he, sl1Within_ok, Option.bind_some, wrap_at he (by omega)]
    show (if inA a y.1 = true then _ else _) = _
    cases ha : inA a y.1
    · rw [if_neg (by decide), sl6Args_area ys _ acc (next_at he) (by omega)]
      simp [valsIn, ha]
    · rw [if_pos rfl, ix_at he, app_ok (mul32 (by simp only [List.length_singleton]; omega)), sl6Args_area ys _ _ (next_at he) (by simp only [List.length_append, List.length_singleton]; omega)]
      simp [valsIn, ha]
theorem ivaluesOf_area {k : Int} {x : dFNode} (hk0 : 0 ≤ k) (hk : f[k.toNat]? = some x) {ks : List Int} {i : Int} : ∀ (ys pre : List dCellValue) (acc : List dValue), l = pre ++ ys → acc.length + ys.length ≤ 1000000 → ivaluesOf_p8 f l k ks (ks.length : Int) i l (l.length : Int) (pre.length : Int) acc = ivaluesOf_p3 f l ks (ks.length : Int) (IntKind.i64.wrap (i + 1)) (acc ++ valsIn ys (areaOf x))
  | [], pre, acc, he, hb => by
    rw [ivaluesOf_p8_eq, ifF (nlt_at he)]
    simp [valsIn]
  | y :: ys, pre, acc, he, hb => by
    have hb' : acc.length + (ys.length + 1) ≤ 1000000 := by simpa using hb
    rw [ivaluesOf_p8_eq, ifT (lt_at he), ix_at he, ix_of hk0 hk, iFNode_area_ok, Option.bind_some, iArea_has_ok, Option.bind_some, wrap_at he (by omega)]
    show (if inA (areaOf x) y.1 = true then _ else _) = _
    cases ha : inA (areaOf x) y.1
    · rw [if_neg (by decide), ivaluesOf_area hk0 hk ys _ acc (next_at he) (by omega)]
      simp [valsIn, ha]
    · rw [if_pos rfl, app_ok (mul32 (by simp only [List.length_singleton]; omega)), ivaluesOf_area hk0 hk ys _ _ (next_at he) (by simp only [List.length_append, List.length_singleton]; omega)]
      simp [valsIn, ha]
omit hf in
theorem valsIn_len (a : dArea) : (valsIn l a).length ≤ 1000 := by
  unfold valsIn
  rw [List.length_map]
  exact Nat.le_trans (List.length_filter_le _ _) hl
theorem sl6Args_loop {k : Int} {x : dFNode} {ev : Int → dValue} (hk0 : 0 ≤ k) (hk : f[k.toNat]? = some x) (hkl : x.2.2.2.2.2.1.length ≤ 100) (hev : ∀ j ∈ x.2.2.2.2.2.1, 0 ≤ j ∧ j < f.length ∧ sl6Eval f j l = some ((ev j, ()), ())) :
    ∀ (ys pre : List Int) (acc : List dValue), x.2.2.2.2.2.1 = pre ++ ys → acc.length ≤ pre.length * 1000 → sl6Args_p3 f k l (pre.length : Int) acc = some ((acc ++ argsV ev f l ys, ()), ())
  | [], pre, acc, he, hb => by
    rw [sl6Args_p3_eq, ix_of hk0 hk, ifF (nlt_at he)]
    simp [argsV]
  | y :: ys, pre, acc, he, hb => by
    have hlen : pre.length < 100 := by
      rw [he, List.length_append, List.length_cons] at hkl
      omega
    obtain ⟨y0, y1, y2⟩ := hev y (by rw [he]; simp)
    obtain ⟨z, hz⟩ : ∃ z, f[y.toNat]? = some z := ⟨f[y.toNat]'(by omega), List.getElem?_eq_getElem _⟩
    have hnz : nodeAt f y = z := by
      unfold nodeAt
      rw [List.getD_eq_getElem?_getD, hz]
      rfl
    rw [sl6Args_p3_eq, ix_of hk0 hk, ifT (lt_at he), ix_of hk0 hk, ix_at he, ix_of y0 hz]
    unfold argsV
    rw [hnz]
    by_cases h3 : z.1 = 3
    · rw [if_neg (by simp [h3]), if_pos h3, show sl6Args_p10 f k l (pre.length : Int) 0 acc z.2.2.2.1.1 z.2.2.2.2.1.1 = sl6Args_p10 f k l (pre.length : Int) (([] : List dCellValue).length : Int) acc (z.2.2.2.1.1, z.2.2.2.2.1.1, ()).1 (z.2.2.2.1.1, z.2.2.2.2.1.1, ()).2.1 from rfl, sl6Args_area hl hf l [] acc rfl (by omega), wrap_at he (by omega), sl6Args_loop hk0 hk hkl hev ys _ _ (next_at he)]
      · have ha : areaOf z = (z.2.2.2.1.1, z.2.2.2.2.1.1, ()) := by
          unfold areaOf
          rw [if_neg (by omega)]
        rw [ha]
        simp
      · have := valsIn_len hl (z.2.2.2.1.1, z.2.2.2.2.1.1, ())
        simp only [List.length_append, List.length_singleton]
        omega
    · rw [if_pos (by simp [h3]), if_neg h3, ix_of hk0 hk, ix_at he, y2, Option.bind_some, app_ok (mul32 (by simp only [List.length_singleton]; omega)), wrap_at he (by omega), sl6Args_loop hk0 hk hkl hev ys _ _ (next_at he)]
      · simp
      · simp only [List.length_append, List.length_singleton]
        omega
theorem ivaluesOf_loop {x : dFNode} {ev : Int → dValue} (hkl : x.2.2.2.2.2.1.length ≤ 100) (hev : ∀ j ∈ x.2.2.2.2.2.1, 0 ≤ j ∧ j < f.length ∧ isays f j l = some ((ev j, ()), ())) :
    ∀ (ys pre : List Int) (acc : List dValue), x.2.2.2.2.2.1 = pre ++ ys → acc.length ≤ pre.length * 1000 → ivaluesOf_p3 f l x.2.2.2.2.2.1 (x.2.2.2.2.2.1.length : Int) (pre.length : Int) acc = some ((acc ++ argsV ev f l ys, ()), ())
  | [], pre, acc, he, hb => by
    rw [ivaluesOf_p3_eq, ifF (nlt_at he)]
    simp [argsV]
  | y :: ys, pre, acc, he, hb => by
    have hlen : pre.length < 100 := by
      rw [he, List.length_append, List.length_cons] at hkl
      omega
    obtain ⟨y0, y1, y2⟩ := hev y (by rw [he]; simp)
    obtain ⟨z, hz⟩ : ∃ z, f[y.toNat]? = some z := ⟨f[y.toNat]'(by omega), List.getElem?_eq_getElem _⟩
    have hnz : nodeAt f y = z := by
      unfold nodeAt
      rw [List.getD_eq_getElem?_getD, hz]
      rfl
    rw [ivaluesOf_p3_eq, ifT (lt_at he), ix_at he, ix_of y0 hz]
    unfold argsV
    rw [hnz]
    by_cases h3 : z.1 = 3
    · rw [if_neg (by simp [h3]), if_pos h3, show ivaluesOf_p8 f l y x.2.2.2.2.2.1 (x.2.2.2.2.2.1.length : Int) (pre.length : Int) l (l.length : Int) 0 acc = ivaluesOf_p8 f l y x.2.2.2.2.2.1 (x.2.2.2.2.2.1.length : Int) (pre.length : Int) l (l.length : Int) (([] : List dCellValue).length : Int) acc from rfl, ivaluesOf_area hl hf y0 hz l [] acc rfl (by omega), wrap_at he (by omega), ivaluesOf_loop hkl hev ys _ _ (next_at he)]
      · simp
      · have := valsIn_len hl (areaOf z)
        simp only [List.length_append, List.length_singleton]
        omega
    · rw [if_pos (by simp [h3]), if_neg h3, y2, Option.bind_some, app_ok (mul32 (by simp only [List.length_singleton]; omega)), wrap_at he (by omega), ivaluesOf_loop hkl hev ys _ _ (next_at he)]
      · simp
      · simp only [List.length_append, List.length_singleton]
        omega
omit hf in
theorem argsV_len {ev : Int → dValue} : ∀ ks : List Int, (argsV ev f l ks).length ≤ ks.length * 1001
  | [] => by simp [argsV]
  | k :: ks => by
    have := argsV_len (ev := ev) ks
    have h := valsIn_len hl (areaOf (nodeAt f k))
    unfold argsV
    rw [List.length_append, List.length_cons]
    split
    · omega
    · rw [List.length_singleton]
      omega
omit hl hf in
theorem argsV_ok {ev : Int → dValue} (hv : ∀ c ∈ l, okVal c.2.1 = true) : ∀ ks : List Int, (∀ j ∈ ks, okVal (ev j) = true) → ∀ v ∈ argsV ev f l ks, okVal v = true
  | [], _, v, h => by cases h
  | k :: ks, he, v, h => by
    unfold argsV at h
    rcases List.mem_append.1 h with h | h
    · split at h
      · unfold valsIn at h
        obtain ⟨c, hc, rfl⟩ := List.mem_map.1 h
        exact hv c (List.mem_filter.1 hc).1
      · rw [List.mem_singleton.1 h]
        exact he k (List.mem_cons_self ..)
    · exact argsV_ok hv ks (fun j hj => he j (List.mem_cons_of_mem _ hj)) v h
/-- A node's kids, by its kind. -/
theorem okNode_cases {x : dFNode} (h : okNode x = true) : (x.1 = 1 ∧ okVal x.2.2.1 = true) ∨ x.1 = 2 ∨ x.1 = 3 ∨ (x.1 = 4 ∧ kl x = 1) ∨ (x.1 = 5 ∧ kl x = 2 ∧ inB x.2.1 1 11 = true) ∨ (x.1 = 6 ∧ okArgs x.2.1 (kl x) = true) := by
  unfold okNode at h
  by_cases h1 : x.1 = 1
  · rw [if_pos h1] at h
    simp only [Bool.and_eq_true] at h
    exact .inl ⟨h1, h.1.1.2⟩
  rw [if_neg h1] at h
  by_cases h2 : x.1 = 2
  · exact .inr (.inl h2)
  rw [if_neg h2] at h
  by_cases h3 : x.1 = 3
  · exact .inr (.inr (.inl h3))
  rw [if_neg h3] at h
  by_cases h4 : x.1 = 4
  · rw [if_pos h4] at h
    simp only [Bool.and_eq_true, decide_eq_true_eq] at h
    exact .inr (.inr (.inr (.inl ⟨h4, h.2⟩)))
  rw [if_neg h4] at h
  by_cases h5 : x.1 = 5
  · rw [if_pos h5] at h
    simp only [Bool.and_eq_true, decide_eq_true_eq] at h
    exact .inr (.inr (.inr (.inr (.inl ⟨h5, h.2, h.1.1.1.1⟩))))
  rw [if_neg h5] at h
  by_cases h6 : x.1 = 6
  · rw [if_pos h6] at h
    simp only [Bool.and_eq_true, decide_eq_true_eq] at h
    exact .inr (.inr (.inr (.inr (.inr ⟨h6, h.1.1.1⟩))))
  rw [if_neg h6] at h
  cases h
theorem okArgs_cases {op k : Int} (h : okArgs op k = true) : (op = 5 ∧ (k = 2 ∨ k = 3)) ∨ ((op = 1 ∨ op = 2 ∨ op = 3 ∨ op = 4 ∨ op = 6 ∨ op = 7) ∧ 1 ≤ k ∧ k ≤ 10) ∨ ((op = 8 ∨ op = 9 ∨ op = 10) ∧ k = 1) := by
  unfold okArgs at h
  by_cases h5 : op = 5
  · rw [if_pos h5] at h
    simp only [Bool.or_eq_true, decide_eq_true_eq] at h
    exact .inl ⟨h5, h⟩
  · rw [if_neg h5] at h
    split at h
    · rename_i h7
      have := inB_iff.1 h7
      have := inB_iff.1 h
      exact .inr (.inl ⟨by omega, by omega⟩)
    · split at h
      · rename_i h8
        have := inB_iff.1 h8
        simp only [decide_eq_true_eq] at h
        exact .inr (.inr ⟨by omega, h⟩)
      · cases h
omit hl hf in
theorem okNum_abs {v : dValue} (h : isNum v = true) : (if v.2.1 < IntKind.i64.wrap (0 - v.2.1) then IntKind.i64.wrap (0 - v.2.1) else v.2.1) = (v.2.1.natAbs : Int) := by
  have := isNum_range h
  rw [wr (by omega) (by omega)]
  split <;> omega
omit hl hf in
theorem bnd_in {n : Int} (h0 : -1000000000000000 ≤ n) (h1 : n ≤ 1000000000000000) : bnd n = vN n := by
  unfold bnd
  rw [if_pos (inB_iff.2 ⟨h0, h1⟩)]
theorem eval_ok (A : ∀ (i : Nat) (x : dFNode), f[i]? = some x → stands f i x) (hv : ∀ c ∈ l, okVal c.2.1 = true) : ∀ (n : Nat) (k : Int), 0 ≤ k → k < n → k < f.length →
    sl6Eval f k l = some ((evF n f l k, ()), ()) ∧ isays f k l = some ((evF n f l k, ()), ()) ∧ okVal (evF n f l k) = true
  | 0, k, h0, h1, _ => by omega
  | n + 1, k, h0, h1, h2 => by
    obtain ⟨x, hx⟩ : ∃ y, f[k.toNat]? = some y := ⟨f[k.toNat]'(by omega), List.getElem?_eq_getElem _⟩
    have hst := A _ _ hx
    have hnx : nodeAt f k = x := by
      unfold nodeAt
      rw [List.getD_eq_getElem?_getD, hx]
      rfl
    have hk : ∀ j ∈ x.2.2.2.2.2.1, sl6Eval f j l = some ((evF n f l j, ()), ()) ∧ isays f j l = some ((evF n f l j, ()), ()) ∧ okVal (evF n f l j) = true := fun j hj => by
      have := hst.2 j hj
      exact eval_ok A hv n j this.1 (by omega) (by omega)
    rw [sl6Eval_eq, isays_eq, ix_of h0 hx, ix_of h0 hx]
    unfold evF
    simp only [hnx]
    rcases okNode_cases hl hf hst.1 with ⟨k1, ho⟩ | k2 | k3 | ⟨k4, hkl⟩ | ⟨k5, hkl, hop⟩ | ⟨k6, hop⟩
    · simp [k1, ho]
    · simp [k2, sl6At_ok (xs := l) (by omega), ilookup_ok (xs := l) (by omega), lookV_ok hv]
    · simp [k3, sl2Error_ok, ifault_ok, okErr (n := 2) (by decide) (by decide)]
    · obtain ⟨a, ha⟩ : ∃ a, x.2.2.2.2.2.1 = [a] := List.length_eq_one_iff.1 (by unfold kl at hkl; omega)
      obtain ⟨e1, e2, e3⟩ := hk a (by rw [ha]; simp)
      have hi : ∀ (d : Int) (g : Int → Option ((dValue × Unit) × Unit)), ix [a] 0 d g = g a := fun d g => ix_of (by decide) rfl
      simp [k4, ha, hi, e1, e2, sNegated_ok (okVal_big e3), iNegated_ok (okVal_big e3), okNeg]
    · obtain ⟨a, b, ha⟩ : ∃ a b, x.2.2.2.2.2.1 = [a, b] := by
        cases hq : x.2.2.2.2.2.1 with
        | nil => unfold kl at hkl; rw [hq] at hkl; simp at hkl
        | cons a t => cases t with
          | nil => unfold kl at hkl; rw [hq] at hkl; simp at hkl
          | cons b t => cases t with
            | nil => exact ⟨a, b, rfl⟩
            | cons c t => unfold kl at hkl; rw [hq] at hkl; simp at hkl; omega
      obtain ⟨e1, e2, e3⟩ := hk a (by rw [ha]; simp)
      obtain ⟨g1, g2, g3⟩ := hk b (by rw [ha]; simp)
      have hi : ∀ (d : Int) (g : Int → Option ((dValue × Unit) × Unit)), ix [a, b] 0 d g = g a := fun d g => ix_of (by decide) rfl
      have hj : ∀ (d : Int) (g : Int → Option ((dValue × Unit) × Unit)), ix [a, b] 1 d g = g b := fun d g => ix_of (by decide) rfl
      have b1 := okVal_big e3
      have b2 := okVal_big g3
      simp only [k5, ha, hi, hj, e1, e2, g1, g2, Option.bind_some, sAdd_ok b1 b2, iAdd_ok b1 b2, sLess_ok b1 b2, iLess_ok b1 b2, sTimes_ok b1 b2, iTimes_ok b1 b2, sOver_ok b1 b2, iOver_ok b1 b2, sJoined_ok b1 b2, iJoined_ok b1 b2, sHeld_ok b1 b2, iHeld_ok b1 b2, List.getD_cons_zero, List.getD_cons_succ]
      unfold binV
      by_cases o1 : x.2.1 = 1
      · simp [o1, okAdd]
      by_cases o2 : x.2.1 = 2
      · simp [o2, okSub]
      by_cases o3 : x.2.1 = 3
      · simp [o3, okMul]
      by_cases o4 : x.2.1 = 4
      · simp [o4, okDiv]
      by_cases o5 : x.2.1 = 5
      · simp [o5, okJoin]
      simp [o1, o2, o3, o4, o5, okHeld]
    · have hcs := okArgs_cases hl hf hop
      have hn10 : x.2.2.2.2.2.1.length ≤ 10 := by unfold kl at hcs; omega
      have hne : 1 ≤ x.2.2.2.2.2.1.length := by unfold kl at hcs; omega
      obtain ⟨a, t, hat⟩ : ∃ a t, x.2.2.2.2.2.1 = a :: t := by
        cases hq : x.2.2.2.2.2.1 with
        | nil => rw [hq] at hne; simp at hne
        | cons a t => exact ⟨a, t, rfl⟩
      obtain ⟨e1, e2, e3⟩ := hk a (by rw [hat]; simp)
      have hi : ∀ (d : Int) (g : Int → Option ((dValue × Unit) × Unit)), ix x.2.2.2.2.2.1 0 d g = g a := fun d g => ix_of (by decide) (by rw [hat]; rfl)
      have hg0 : x.2.2.2.2.2.1.getD 0 0 = a := by rw [hat]; rfl
      rw [sl6Call_eq, icalled_eq, ix_of h0 hx]
      have b1 := okVal_big e3
      unfold callV
      rcases hcs with ⟨o5, hk2⟩ | ⟨oo, _⟩ | ⟨oo, _⟩
      · -- a choice
        have hm : ∀ j : Nat, j < x.2.2.2.2.2.1.length → ∃ c, x.2.2.2.2.2.1[j]? = some c ∧ x.2.2.2.2.2.1.getD j 0 = c ∧ sl6Eval f c l = some ((evF n f l c, ()), ()) ∧ isays f c l = some ((evF n f l c, ()), ()) ∧ okVal (evF n f l c) = true := fun j hj => by
          refine ⟨x.2.2.2.2.2.1[j], List.getElem?_eq_getElem _, by simp [List.getD_eq_getElem?_getD, hj], hk _ (List.getElem_mem _)⟩
        rw [ichosen_eq]
        simp only [k6, o5, hi, hg0, e1, e2, Option.bind_some, sl6Bool_ok e3, iasTruth_ok b1, inone_ok b1, itruth_ok, sl2Flag_ok, beq_self_eq_true, if_true]
        unfold kl at hk2
        cases ht : isTru (evF n f l a) with
        | false =>
          have := nonV_bad (evF n f l a)
          simp [this, okNon]
        | true =>
          obtain ⟨c, c1, c2, c3, c4, c5⟩ := hm 1 (by omega)
          have hi1 : ∀ (d : Int) (g : Int → Option ((dValue × Unit) × Unit)), ix x.2.2.2.2.2.1 1 d g = g c := fun d g => ix_of (by decide) c1
          simp only [if_true, hi1, c2, c3, c4, Option.bind_some]
          by_cases hz : (evF n f l a).2.1 = 0
          · rcases hk2 with h22 | h33
            · have h22' : x.2.2.2.2.2.1.length = 2 := by omega
              simp [hz, v0, kl, h22', okB]
            · obtain ⟨d, d1, d2, d3, d4, d5⟩ := hm 2 (by omega)
              have hi2 : ∀ (z : Int) (g : Int → Option ((dValue × Unit) × Unit)), ix x.2.2.2.2.2.1 2 z g = g d := fun z g => ix_of (by decide) d1
              have h33' : x.2.2.2.2.2.1.length = 3 := by omega
              have d2' : x.2.2.2.2.2.1[2]?.getD 0 = d := by rw [← List.getD_eq_getElem?_getD]; exact d2
              have d6 : ∀ hh : 2 < x.2.2.2.2.2.1.length, x.2.2.2.2.2.1[2]'hh = d := fun hh => by
                rw [List.getElem?_eq_getElem hh] at d1
                exact Option.some.inj d1
              simp [hz, v0, kl, h33', hi2, d6, d3, d4, d5]
          · have c2' : x.2.2.2.2.2.1[1]?.getD 0 = c := by rw [← List.getD_eq_getElem?_getD]; exact c2
            simp [hz, v0, c5, c2']
      · -- of many values
        have h5 : x.2.1 ≠ 5 := by omega
        have h8 : x.2.1 ≠ 8 := by omega
        have h9 : x.2.1 ≠ 9 := by omega
        have h10 : x.2.1 ≠ 10 := by omega
        have ea := sl6Args_loop hl hf (ev := evF n f l) h0 hx (by omega) (fun j hj => ⟨(hst.2 j hj).1, by have := (hst.2 j hj).2.1; omega, (hk j hj).1⟩) x.2.2.2.2.2.1 [] [] rfl (by simp)
        have eb := ivaluesOf_loop hl hf (x := x) (ev := evF n f l) (by omega) (fun j hj => ⟨(hst.2 j hj).1, by have := (hst.2 j hj).2.1; omega, (hk j hj).2.1⟩) x.2.2.2.2.2.1 [] [] rfl (by simp)
        have hal := argsV_len hl (f := f) (ev := evF n f l) x.2.2.2.2.2.1
        have hav := argsV_ok (f := f) (ev := evF n f l) hv x.2.2.2.2.2.1 (fun j hj => (hk j hj).2.2)
        simp only [List.nil_append] at ea eb
        generalize argsV (evF n f l) f l x.2.2.2.2.2.1 = args at ea eb hal hav ⊢
        have ea' : sl6Args f k l = some ((args, ()), ()) := by rw [sl6Args_eq]; exact ea
        have eb' : ivaluesOf f x l = some ((args, ()), ()) := by rw [ivaluesOf_eq]; exact eb
        have hlen : args.length ≤ 100000000 := by omega
        simp only [ea', eb', Option.bind_some, sl6Fold_ok hlen hav oo, itogether_ok hlen hav, isummed_ok hlen hav, igathered_ok hlen hav]
        have hfo := foldV_ok (op := x.2.1) hav hlen
        unfold foldV at hfo ⊢
        rcases oo with o | o | o | o | o | o <;> simp [k6, o] <;> simpa [o] using hfo
      · -- of one value
        simp only [k6, hi, hg0, e1, e2, Option.bind_some]
        rw [isingle_eq]
        obtain ⟨t, e4, e5⟩ := iasText_ok b1
        simp only [sl6Bool_ok e3, sl2Word_ok b1, sl2Flag_ok, sl2Int_ok, iasTruth_ok b1, iasNumber_ok b1, e4, inone_ok b1, itruth_ok, inumber_ok, Option.bind_some, show ((0, 0, ({ data := #[] } : ByteArray), ()) : dValue) = v0 from rfl, sAdd_ok b1 (b := v0) (by decide)]
        rcases oo with o | o | o
        · simp only [o]
          cases ht : isTru (evF n f l a) with
          | false =>
            have := nonV_bad (evF n f l a)
            simp [this, okNon]
          | true => simp [v0, okB]
        · simp only [o]
          have h0n : isNum v0 = true := by decide
          cases ht : isNum (evF n f l a) with
          | false =>
            have := nonV_bad (evF n f l a)
            have ha : addV (evF n f l a) v0 = nonV (evF n f l a) := by
              unfold addV two
              rw [if_neg (by rw [ht]; decide)]
            simp [ha, this, okNon]
          | true =>
            have hr := isNum_range ht
            have ha : addV (evF n f l a) v0 = vN (evF n f l a).2.1 := by
              unfold addV two
              rw [if_pos ht, if_pos h0n]
              show bnd ((evF n f l a).2.1 + 0) = _
              rw [Int.add_zero, bnd_in hr.1 hr.2]
            have hN : okVal (vN (evF n f l a).2.1) = true := okN hr.1 hr.2
            have hneg : negV (vN (evF n f l a).2.1) = vN (-(evF n f l a).2.1) := by
              unfold negV subV two
              rw [if_pos h0n, if_pos (by unfold isNum; rw [hN]; rfl)]
              show bnd (0 - (evF n f l a).2.1) = _
              rw [bnd_in (by omega) (by omega)]
              congr 1
              omega
            have habs := okNum_abs ht
            have hok : okVal (vN ((evF n f l a).2.1.natAbs : Int)) = true := okN (by omega) (by omega)
            simp only [ha, habs, sNegated_ok (okVal_big hN), hneg, Option.bind_some]
            by_cases hlt : (evF n f l a).2.1 < 0
            · have : (-(evF n f l a).2.1) = ((evF n f l a).2.1.natAbs : Int) := by omega
              simp [vN, hlt, this] at hok ⊢
              exact hok
            · have : (evF n f l a).2.1 = ((evF n f l a).2.1.natAbs : Int) := by omega
              simp [vN, hlt] at hok ⊢
              exact ⟨this, hok⟩
        · simp only [o]
          cases ht : isTx (evF n f l a) with
          | false =>
            have := nonV_bad (evF n f l a)
            simp [this, okNon]
          | true =>
            have hz := txt_size e3
            have hb := bnd_in (n := ((txt (evF n f l a)).size : Int)) (by omega) (by omega)
            have hok : okVal (vN ((txt (evF n f l a)).size : Int)) = true := okN (by omega) (by omega)
            rw [e5 ht]
            simp [v0, hb, hok]
end
/-- What a formula says. -/
def evalF (f : List dFNode) (l : List dCellValue) : dValue := let v := evF f.length f l ((f.length : Int) - 1); if v.1 = 0 then vN 0 else v
def evalV (f : List dFNode) (l : List dCellValue) : dValue := if okF f = true then (if okVs l = true then evalF f l else vE 3) else vE 3
section
variable {f : List dFNode} {l : List dCellValue} (hl : l.length ≤ 10000000) (hvs : ∀ c ∈ l, c.2.1.2.2.1.size ≤ 9223372036854775807) (hf : f.length ≤ 10000000) (hs : ∀ x ∈ f, x.2.2.1.2.2.1.size ≤ 9223372036854775807) (hkl : ∀ x ∈ f, x.2.2.2.2.2.1.length ≤ 10000000)
include hl hvs hf hs hkl
theorem okVs_len (h : okVs l = true) : l.length ≤ 1000 := by
  unfold okVs at h
  simp only [Bool.and_eq_true, decide_eq_true_eq] at h
  omega
theorem evals_ok (h1 : okF f = true) (h2 : okVs l = true) : sl6Eval f ((f.length : Int) - 1) l = some ((evF f.length f l ((f.length : Int) - 1), ()), ()) ∧ isays f ((f.length : Int) - 1) l = some ((evF f.length f l ((f.length : Int) - 1), ()), ()) ∧ okVal (evF f.length f l ((f.length : Int) - 1)) = true := by
  have hb : inB (f.length : Int) 1 60 = true := by
    unfold okF at h1
    simp only [Bool.and_eq_true] at h1
    exact h1.1
  have := inB_iff.1 hb
  exact eval_ok (okVs_len hl hvs hf hs hkl h2) hf (okF_stands h1) (okVs_vals h2) f.length _ (by omega) (by omega) (by omega)
theorem sEval_ok : sEval f l = some ((evalV f l, ()), ()) := by
  rw [sEval_eq, sFormulaOk_ok hf hs hkl, Option.bind_some]
  unfold evalV
  cases h1 : okF f with
  | false => simp [sl2Error_ok]
  | true =>
    rw [sValuesOk_ok hl hvs, Option.bind_some]
    cases h2 : okVs l with
    | false => simp [sl2Error_ok]
    | true =>
      obtain ⟨e1, e2, e3⟩ := evals_ok hl hvs hf hs hkl h1 h2
      rw [wr1 (by omega) (by omega), e1]
      unfold evalF
      have hb : bnd 0 = vN 0 := by decide
      by_cases h0 : (evF f.length f l ((f.length : Int) - 1)).1 = 0 <;> simp [h0, sl2Int_ok, hb]
theorem ieval_ok (h1 : okF f = true) (h2 : okVs l = true) : ieval f l = some ((evalF f l, ()), ()) := by
  obtain ⟨e1, e2, e3⟩ := evals_ok hl hvs hf hs hkl h1 h2
  rw [ieval_eq, wr1 (by omega) (by omega), e2]
  unfold evalF
  by_cases h0 : (evF f.length f l ((f.length : Int) - 1)).1 = 0 <;> simp [h0, inumber_ok]
theorem iEval_ok : iEval f l = some ((evalV f l, ()), ()) := by
  rw [iEval_eq, iFormulaOk_ok hf hs hkl, Option.bind_some]
  unfold evalV
  cases h1 : okF f with
  | false => simp [ifault_ok]
  | true =>
    rw [iValuesOk_ok hl hvs, Option.bind_some]
    cases h2 : okVs l with
    | false => simp [ifault_ok]
    | true => simp [ieval_ok hl hvs hf hs hkl h1 h2]
end
end Go.Proofs.YtiligfmembmapaaGreatDoor.Abs
