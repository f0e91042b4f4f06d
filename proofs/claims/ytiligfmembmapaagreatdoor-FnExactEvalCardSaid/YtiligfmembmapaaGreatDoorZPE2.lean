/- What calls make of their values. -/
import Derived.Test.YtiligfmembmapaaGreatDoorZPE
set_option linter.unusedVariables false
set_option linter.unusedSimpArgs false
set_option linter.unusedSectionVars false
namespace Go.Proofs.YtiligfmembmapaaGreatDoor.Abs
open Go

def isTru (v : dValue) : Bool := okVal v && (decide (v.1 = 0) || decide (v.1 = 1) || decide (v.1 = 3))
theorem iasTruth_ok {v : dValue} (h : v.2.2.1.size ≤ 9223372036854775807) : iasTruth v = some ((decide (v.2.1 ≠ 0), isTru v, ()), ()) := by
  rw [iasTruth_eq]
  unfold isTru
  simp only [iValueOk_ok h, Option.bind_some, beq_iff_eq]
  have hb : (v.2.1 != 0) = decide (v.2.1 ≠ 0) := by by_cases h : v.2.1 = 0 <;> simp [h]
  rw [hb]
  cases okVal v
  · rfl
  · by_cases h0 : v.1 = 0
    · simp [h0]
    · by_cases h1 : v.1 = 1
      · simp [h1]
      · simp [h0, h1, beqI]
theorem sl6Bool_ok {v : dValue} (h : okVal v = true) : sl6Bool v = some ((if isTru v = true then decide (v.2.1 ≠ 0) else false, if isTru v = true then v0 else nonV v, ()), ()) := by
  rw [sl6Bool_eq]
  unfold isTru nonV
  simp only [sl2Error_ok, Option.bind_some, beq_iff_eq, h, if_true, Bool.true_and]
  rcases okVal_kind h with k | k | k | k | k
  · have : v.2.1 = 0 := by
      unfold okVal at h
      rw [if_neg (by omega), if_pos k] at h
      simp only [Bool.and_eq_true, decide_eq_true_eq] at h
      exact h.2
    simp [k, this, v0]
  · have hb : (v.2.1 != 0) = decide (v.2.1 ≠ 0) := by by_cases h : v.2.1 = 0 <;> simp [h]
    simp [k, hb, v0]
  · simp [k]
  · have := okVal_3 h k
    have : v.2.1 = 0 ∨ v.2.1 = 1 := by omega
    rcases this with h1 | h1 <;> simp [k, h1, v0]
  · simp [k]
/-- Whether all, or one, of some values are true. -/
def tog (a : Bool) : List dValue → Bool → Bool → dValue
  | [], all, one => vB (if a = true then all else one)
  | v :: l, all, one => if isTru v = true then tog a l (all && decide (v.2.1 ≠ 0)) (one || decide (v.2.1 ≠ 0)) else nonV v
def sumL : List dValue → dValue → dValue
  | [], s => s
  | v :: l, s => if v.1 = 4 then v else if v.1 = 1 then (if (addV s v).1 = 4 then addV s v else sumL l (addV s v)) else sumL l s
def gatL (op : Int) : List dValue → Int → Int → Int → dValue
  | [], l, m, c => if op = 2 then vN l else if op = 3 then vN m else vN c
  | v :: t, l, m, c => if v.1 = 4 ∧ op ≠ 4 then v else if v.1 = 1 then (if c = 0 then gatL op t v.2.1 v.2.1 1 else gatL op t (if v.2.1 < l then v.2.1 else l) (if m < v.2.1 then v.2.1 else m) (c + 1)) else gatL op t l m c
theorem tog_cons (a : Bool) (v : dValue) (l : List dValue) (all one : Bool) : tog a (v :: l) all one = if isTru v = true then tog a l (all && decide (v.2.1 ≠ 0)) (one || decide (v.2.1 ≠ 0)) else nonV v := rfl
theorem sumL_cons (v : dValue) (l : List dValue) (s : dValue) : sumL (v :: l) s = if v.1 = 4 then v else if v.1 = 1 then (if (addV s v).1 = 4 then addV s v else sumL l (addV s v)) else sumL l s := rfl
theorem gatL_cons (op : Int) (v : dValue) (t : List dValue) (l m c : Int) : gatL op (v :: t) l m c = if v.1 = 4 ∧ op ≠ 4 then v else if v.1 = 1 then (if c = 0 then gatL op t v.2.1 v.2.1 1 else gatL op t (if v.2.1 < l then v.2.1 else l) (if m < v.2.1 then v.2.1 else m) (c + 1)) else gatL op t l m c := rfl
section
variable {xs : List dValue} (hl : xs.length ≤ 100000000) (hv : ∀ v ∈ xs, okVal v = true)
include hl hv
theorem itogether_loop {op : Int} {p q : Int} {s : ByteArray} : ∀ (ys pre : List dValue) (all one : Bool), xs = pre ++ ys → itogether_p3 op all one xs (xs.length : Int) (pre.length : Int) p q s = some ((tog (decide (op = 6)) ys all one, ()), ())
  | [], pre, all, one, he => by
    rw [itogether_p3_eq, ifF (nlt_at he)]
    by_cases h : op = 6 <;> simp [h, itruth_ok, tog]
  | y :: ys, pre, all, one, he => by
    have hy := hv y (by rw [he]; simp)
    rw [itogether_p3_eq, ifT (lt_at he), ix_at he, iasTruth_ok (okVal_big hy), Option.bind_some, wrap_at he (by omega)]
    simp only [itogether_loop ys _ _ _ (next_at he), inone_ok (okVal_big hy), Option.bind_some]
    rw [tog_cons]
    cases isTru y
    · simp
    · cases all <;> cases one <;> simp
theorem itogether_ok (op : Int) : itogether op xs = some ((tog (decide (op = 6)) xs true false, ()), ()) := by
  rw [itogether_eq]
  exact itogether_loop hl hv xs [] true false rfl
theorem isummed_loop {p q : Int} {u : ByteArray} : ∀ (ys pre : List dValue) (s : dValue), xs = pre ++ ys → okVal s = true → s.1 ≠ 4 → isummed_p3 xs (xs.length : Int) (pre.length : Int) p q u s.1 s.2.1 s.2.2.1 = some ((sumL ys s, ()), ())
  | [], pre, s, he, hs, h4 => by
    rw [isummed_p3_eq, ifF (nlt_at he)]
    rfl
  | y :: ys, pre, s, he, hs, h4 => by
    have hy := hv y (by rw [he]; simp)
    rw [isummed_p3_eq, ifT (lt_at he), ix_at he, wrap_at he (by omega)]
    show (if (y.1 == 4) = true then _ else if (y.1 == 1) = true then (iAdd s y).bind _ else _) = _
    rw [iAdd_ok (okVal_big hs) (okVal_big hy), Option.bind_some]
    rw [sumL_cons]
    by_cases k4 : y.1 = 4
    · simp [k4]
    · by_cases k1 : y.1 = 1
      · by_cases ka : (addV s y).1 = 4
        · simp [k1, ka]
        · simp only [k1, ka, beq_iff_eq, if_true, if_false]
          rw [if_neg (by decide), if_neg (by decide)]
          exact isummed_loop ys _ (addV s y) (next_at he) (okAdd _ _) ka
      · simp only [k4, k1, h4, beq_iff_eq, if_false]
        exact isummed_loop ys _ s (next_at he) hs h4
theorem isummed_ok : isummed xs = some ((sumL xs (vN 0), ()), ()) := by
  rw [isummed_eq, inumber_ok, Option.bind_some]
  exact isummed_loop hl hv xs [] (vN 0) rfl (okN (by decide) (by decide)) (by decide)
theorem igathered_loop {op : Int} {p q : Int} {u : ByteArray} : ∀ (ys pre : List dValue) (l m c : Int), xs = pre ++ ys → 0 ≤ c → c ≤ pre.length → igathered_p3 op l m c xs (xs.length : Int) (pre.length : Int) p q u = some ((gatL op ys l m c, ()), ())
  | [], pre, l, m, c, he, h0, h1 => by
    rw [igathered_p3_eq, ifF (nlt_at he)]
    unfold gatL
    by_cases h2 : op = 2
    · simp [h2, inumber_ok]
    · by_cases h3 : op = 3 <;> simp [h2, h3, inumber_ok]
  | y :: ys, pre, l, m, c, he, h0, h1 => by
    have hlt := lt_at he
    have ih := fun l m c h0 h1 => igathered_loop (op := op) (p := p) (q := q) (u := u) ys _ l m c (next_at he) h0 h1
    rw [igathered_p3_eq, ifT hlt, ix_at he, wrap_at he (by omega)]
    rw [wr (n := c + 1) (by omega) (by omega)]
    have hp : ((pre ++ [y]).length : Int) = pre.length + 1 := by simp
    generalize ((pre ++ [y]).length : Int) = w at ih hp ⊢
    rw [gatL_cons]
    simp only [beq_iff_eq, bne_iff_ne, ne_eq]
    by_cases hc : c = 0
    · subst hc
      have e1 := ih y.2.1 y.2.1 1 (by decide) (by omega)
      have e2 := ih l m 0 (by decide) (by omega)
      by_cases k4 : y.1 = 4
      · by_cases o4 : op = 4
        · simp [k4, o4]
          rw [← o4]
          exact e2
        · simp [k4, o4]
      · by_cases k1 : y.1 = 1
        · simp [k1]
          exact e1
        · simp [k4, k1]
          exact e2
    · have e1 := ih (if y.2.1 < l then y.2.1 else l) (if m < y.2.1 then y.2.1 else m) (c + 1) (by omega) (by omega)
      have e2 := ih l m c h0 (by omega)
      by_cases k4 : y.1 = 4
      · by_cases o4 : op = 4
        · simp [k4, o4]
          rw [← o4]
          exact e2
        · simp [k4, o4]
      · by_cases k1 : y.1 = 1
        · simp [k1, hc]
          exact e1
        · simp [k4, k1]
          exact e2
theorem igathered_ok (op : Int) : igathered op xs = some ((gatL op xs 0 0 0, ()), ()) := by
  rw [igathered_eq]
  exact igathered_loop hl hv xs [] 0 0 0 rfl (by decide) (by decide)
/-! ### The reference's one loop -/
theorem fold_tog {op : Int} (ho : op = 6 ∨ op = 7) {p q c k n : Int} {u t : ByteArray} : ∀ (ys pre : List dValue) (all one : Bool), xs = pre ++ ys → sl6Fold_p6 op xs c all one (pre.length : Int) p q u k n t = some ((tog (decide (op = 6)) ys all one, ()), ())
  | [], pre, all, one, he => by
    rw [sl6Fold_p6_eq, ifF (nlt_at he)]
    rcases ho with rfl | rfl <;> simp [sl2Flag_ok, tog]
  | y :: ys, pre, all, one, he => by
    have hy := hv y (by rw [he]; simp)
    have ih := fun all one => fold_tog ho (p := p) (q := q) (c := c) (k := k) (n := n) (u := u) (t := t) ys _ all one (next_at he)
    rw [sl6Fold_p6_eq, ifT (lt_at he), ix_at he, sl6Bool_ok hy, Option.bind_some, wrap_at he (by omega)]
    simp only [ih]
    rw [tog_cons]
    rcases ho with rfl | rfl
    · cases it : isTru y
      · have := nonV_bad y
        simp [this]
      · cases all <;> cases one <;> simp [v0]
    · cases it : isTru y
      · have := nonV_bad y
        simp [this]
      · cases all <;> cases one <;> simp [v0]
theorem fold_sum {p q : Int} {u : ByteArray} : ∀ (ys pre : List dValue) (s : dValue) (c : Int), xs = pre ++ ys → okVal s = true → 0 ≤ c → c ≤ pre.length → sl6Fold_p6 1 xs c true false (pre.length : Int) p q u s.1 s.2.1 s.2.2.1 = some ((sumL ys s, ()), ())
  | [], pre, s, c, he, hs, c0, c1 => by
    rw [sl6Fold_p6_eq, ifF (nlt_at he)]
    rfl
  | y :: ys, pre, s, c, he, hs, c0, c1 => by
    have hlt := lt_at he
    have hy := hv y (by rw [he]; simp)
    rw [sl6Fold_p6_eq, ifT hlt, ix_at he, wrap_at he (by omega), wr (n := c + 1) (by omega) (by omega)]
    have hsy : sAdd (s.1, s.2.1, s.2.2.1, ()) y = some ((addV s y, ()), ()) := sAdd_ok (okVal_big hs) (okVal_big hy)
    have e2 := fold_sum (p := p) (q := q) (u := u) ys _ s c (next_at he) hs c0 (by rw [List.length_append, List.length_singleton]; omega)
    have e1 := fold_sum (p := p) (q := q) (u := u) ys _ (addV s y) (c + 1) (next_at he) (okAdd _ _) (by omega) (by rw [List.length_append, List.length_singleton]; omega)
    simp only [hsy, Option.bind_some, e1, e2]
    rw [sumL_cons]
    by_cases k4 : y.1 = 4
    · simp [k4]
    · by_cases k1 : y.1 = 1
      · by_cases ka : (addV s y).1 = 4 <;> simp [k1, ka]
      · simp [k4, k1]
theorem okVal_vN {v : dValue} (h : okVal v = true) (k : v.1 = 1) : v = vN v.2.1 := by
  unfold okVal at h
  rw [if_neg (by omega)] at h
  simp only [Bool.and_eq_true, decide_eq_true_eq] at h
  obtain ⟨a, b, c, ⟨⟩⟩ := v
  simp only at h k
  rw [k, h.1]
  rfl
set_option maxHeartbeats 2000000 in
theorem fold_gat {op : Int} (ho : op = 2 ∨ op = 3 ∨ op = 4) {p q : Int} {u : ByteArray} : ∀ (ys pre : List dValue) (l m c n : Int), xs = pre ++ ys → 0 ≤ c → c ≤ pre.length → c ≤ 1000000000 → (op = 2 → n = l) → (op = 3 → n = m) → sl6Fold_p6 op xs c true false (pre.length : Int) p q u 1 n eS = some ((gatL op ys l m c, ()), ())
  | [], pre, l, m, c, n, he, h0, h1, h9, n2, n3 => by
    rw [sl6Fold_p6_eq, ifF (nlt_at he)]
    unfold gatL
    rcases ho with rfl | rfl | rfl
    · rw [n2 rfl]
      rfl
    · rw [n3 rfl]
      rfl
    · have : bnd c = vN c := by
        unfold bnd
        rw [if_pos (inB_iff.2 (by omega))]
      simp [sl2Int_ok, this]
  | y :: ys, pre, l, m, c, n, he, h0, h1, h9, n2, n3 => by
    have hlt := lt_at he
    have hy := hv y (by rw [he]; simp)
    have hp : ((pre ++ [y]).length : Int) = pre.length + 1 := by simp
    have ih := fun l m c n h0 h1 h9 n2 n3 => fold_gat ho (p := p) (q := q) (u := u) ys _ l m c n (next_at he) h0 h1 h9 n2 n3
    rw [sl6Fold_p6_eq, ifT hlt, ix_at he, wrap_at he (by omega), wr (n := c + 1) (by omega) (by omega)]
    generalize ((pre ++ [y]).length : Int) = w at ih hp ⊢
    rw [gatL_cons]
    simp only [beq_iff_eq, bne_iff_ne, ne_eq]
    by_cases k4 : y.1 = 4
    · rcases ho with rfl | rfl | rfl
      · simp [k4]
      · simp [k4]
      · simp [k4]
        exact ih l m c n h0 (by omega) h9 (by simp) (by simp)
    · by_cases k1 : y.1 = 1
      · have hyv := okVal_vN hl hv hy k1
        have hyS : y.2.2.1 = eS := by rw [hyv]; rfl
        simp only [k1, hyS, not_true, if_false, if_true]
        by_cases hc : c = 0
        · subst hc
          rcases ho with rfl | rfl | rfl
          · simp
            exact ih y.2.1 y.2.1 1 y.2.1 (by decide) (by omega) (by decide) (fun _ => rfl) (by simp)
          · simp
            exact ih y.2.1 y.2.1 1 y.2.1 (by decide) (by omega) (by decide) (by simp) (fun _ => rfl)
          · simp
            exact ih y.2.1 y.2.1 1 y.2.1 (by decide) (by omega) (by decide) (by simp) (by simp)
        · have hc1 : ¬ c + 1 = 1 := by omega
          rcases ho with rfl | rfl | rfl
          · have := n2 rfl
            subst this
            by_cases hlt2 : y.2.1 < n
            · simp [hc, hc1, hlt2]
              exact ih _ _ (c + 1) y.2.1 (by omega) (by omega) (by omega) (fun _ => rfl) (by simp)
            · simp [hc, hc1, hlt2]
              exact ih _ _ (c + 1) n (by omega) (by omega) (by omega) (fun _ => rfl) (by simp)
          · have := n3 rfl
            subst this
            by_cases hlt2 : n < y.2.1
            · simp [hc, hc1, hlt2]
              exact ih _ _ (c + 1) y.2.1 (by omega) (by omega) (by omega) (by simp) (fun _ => rfl)
            · simp [hc, hc1, hlt2]
              exact ih _ _ (c + 1) n (by omega) (by omega) (by omega) (by simp) (fun _ => rfl)
          · simp [hc, hc1]
            exact ih _ _ (c + 1) n (by omega) (by omega) (by omega) (by simp) (by simp)
      · rcases ho with rfl | rfl | rfl <;> simp [k4, k1]
        · exact ih l m c n h0 (by omega) h9 n2 (by simp)
        · exact ih l m c n h0 (by omega) h9 (by simp) n3
        · exact ih l m c n h0 (by omega) h9 (by simp) (by simp)
/-- What a function of many values says. -/
def foldV (op : Int) (xs : List dValue) : dValue := if op = 6 ∨ op = 7 then tog (decide (op = 6)) xs true false else if op = 1 then sumL xs (vN 0) else gatL op xs 0 0 0
theorem sl6Fold_ok {op : Int} (ho : op = 1 ∨ op = 2 ∨ op = 3 ∨ op = 4 ∨ op = 6 ∨ op = 7) : sl6Fold op xs = some ((foldV op xs, ()), ()) := by
  rw [sl6Fold_eq]
  unfold foldV
  by_cases h6 : op = 6 ∨ op = 7
  · rw [if_pos h6]
    exact fold_tog hl hv h6 xs [] true false rfl
  · rw [if_neg h6]
    by_cases h1 : op = 1
    · subst h1
      exact fold_sum hl hv xs [] (vN 0) 0 rfl (okN (by decide) (by decide)) (by decide) (by decide)
    · rw [if_neg h1]
      exact fold_gat hl hv (by omega) xs [] 0 0 0 0 rfl (by decide) (by decide) (by decide) (fun _ => rfl) (fun _ => rfl)
end
theorem tog_ok {a : Bool} : ∀ {l : List dValue} {p q : Bool}, okVal (tog a l p q) = true
  | [], p, q => okB _
  | v :: l, p, q => by
    unfold tog
    split
    · exact tog_ok
    · exact okNon _
theorem sumL_ok : ∀ {l : List dValue} {s : dValue}, (∀ v ∈ l, okVal v = true) → okVal s = true → okVal (sumL l s) = true
  | [], s, _, h => h
  | v :: l, s, hv, h => by
    unfold sumL
    split
    · exact hv v (List.mem_cons_self ..)
    · split
      · split
        · exact okAdd _ _
        · exact sumL_ok (fun w hw => hv w (List.mem_cons_of_mem _ hw)) (okAdd _ _)
      · exact sumL_ok (fun w hw => hv w (List.mem_cons_of_mem _ hw)) h
theorem gatL_ok {op : Int} : ∀ {t : List dValue} {l m c : Int}, (∀ v ∈ t, okVal v = true) → (-1000000000000000 ≤ l ∧ l ≤ 1000000000000000) → (-1000000000000000 ≤ m ∧ m ≤ 1000000000000000) → (0 ≤ c ∧ c + t.length ≤ 1000000000000000) → okVal (gatL op t l m c) = true
  | [], l, m, c, hv, hl, hm, hc => by
    unfold gatL
    simp only [List.length_nil] at hc
    split
    · exact okN hl.1 hl.2
    · split
      · exact okN hm.1 hm.2
      · exact okN (by omega) (by omega)
  | v :: t, l, m, c, hv, hl, hm, hc => by
    have hvv := hv v (List.mem_cons_self ..)
    have hvt := fun w hw => hv w (List.mem_cons_of_mem _ hw)
    simp only [List.length_cons] at hc
    unfold gatL
    split
    · exact hvv
    · split
      · have := okVal_1 hvv ‹_›
        split
        · exact gatL_ok hvt this this (by omega)
        · refine gatL_ok hvt ?_ ?_ (by omega)
          · split <;> omega
          · split <;> omega
      · exact gatL_ok hvt hl hm (by omega)
theorem foldV_ok {op : Int} {xs : List dValue} (hv : ∀ v ∈ xs, okVal v = true) (hl : xs.length ≤ 100000000) : okVal (foldV op xs) = true := by
  unfold foldV
  split
  · exact tog_ok
  · split
    · exact sumL_ok hv (okN (by decide) (by decide))
    · exact gatL_ok hv (by decide) (by decide) (by omega)
end Go.Proofs.YtiligfmembmapaaGreatDoor.Abs
