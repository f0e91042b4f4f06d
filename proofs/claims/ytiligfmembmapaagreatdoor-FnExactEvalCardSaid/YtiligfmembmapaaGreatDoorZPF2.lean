/- Formulas that are right: trees. -/
import Derived.Test.YtiligfmembmapaaGreatDoorZPF
set_option linter.unusedVariables false
set_option linter.unusedSimpArgs false
set_option linter.unusedSectionVars false
namespace Go.Proofs.YtiligfmembmapaaGreatDoor.Abs
open Go

def isAr (f : List dFNode) (i : Int) : Bool := decide ((f.getD i.toNat tFNode.dflt).1 = 3)
def kidsC (c : Int → Option (Int × Nat)) (f : List dFNode) (call : Bool) : List Int → Int → Nat → Option (Int × Nat)
  | [], cur, h => some (cur, h + 1)
  | kid :: l, cur, h => if kid = cur - 1 ∧ 0 ≤ kid ∧ (isAr f kid = true → call = true) then (c kid).bind fun p => kidsC c f call l p.1 (max h p.2) else none
/-- Where the nodes of a tree begin, and how deep it is. -/
def chk (f : List dFNode) : Nat → Int → Option (Int × Nat)
  | 0, _ => none
  | n + 1, k => if 0 ≤ k then match f[k.toNat]? with
    | none => none
    | some x => if okNode x = true then kidsC (chk f n) f (decide (x.1 = 6)) x.2.2.2.2.2.1.reverse k 0 else none
    else none
/-- A node stands rightly. -/
def stands (f : List dFNode) (i : Nat) (x : dFNode) : Prop := okNode x = true ∧ ∀ k ∈ x.2.2.2.2.2.1, 0 ≤ k ∧ k < i ∧ (isAr f k = true → x.1 = 6)
theorem kidsC_all {c : Int → Option (Int × Nat)} {f : List dFNode} {call : Bool} (hc : ∀ k s h, c k = some (s, h) → 0 ≤ s ∧ s ≤ k ∧ ∀ i : Nat, s ≤ i → (i : Int) ≤ k → ∃ x, f[i]? = some x ∧ stands f i x) :
    ∀ (l : List Int) (cur : Int) (h : Nat) (s : Int) (h' : Nat), 0 ≤ cur → kidsC c f call l cur h = some (s, h') → 0 ≤ s ∧ s ≤ cur ∧ h + 1 ≤ h' ∧ (∀ i : Nat, s ≤ i → (i : Int) < cur → ∃ x, f[i]? = some x ∧ stands f i x) ∧ ∀ k ∈ l, 0 ≤ k ∧ k < cur ∧ (isAr f k = true → call = true)
  | [], cur, h, s, h', h0, e => by
    simp only [kidsC, Option.some.injEq, Prod.mk.injEq] at e
    obtain ⟨rfl, rfl⟩ := e
    exact ⟨h0, Int.le_refl _, Nat.le_refl _, fun i h1 h2 => by omega, fun k hk => by cases hk⟩
  | kid :: l, cur, h, s, h', h0, e => by
    simp only [kidsC] at e
    split at e
    · rename_i hk
      rw [Option.bind_eq_some_iff] at e
      obtain ⟨⟨t, ht⟩, e1, e2⟩ := e
      obtain ⟨a1, a2, a3⟩ := hc _ _ _ e1
      obtain ⟨b1, b2, b3, b4, b5⟩ := kidsC_all hc l t (max h ht) s h' a1 e2
      refine ⟨b1, by omega, by omega, fun i h1 h2 => ?_, fun k hm => ?_⟩
      · by_cases hi : (i : Int) < t
        · exact b4 i h1 hi
        · exact a3 i (by omega) (by omega)
      · rcases List.mem_cons.1 hm with rfl | hm
        · exact ⟨hk.2.1, by omega, hk.2.2⟩
        · have := b5 k hm
          exact ⟨this.1, by omega, this.2.2⟩
    · cases e
theorem chk_all (f : List dFNode) : ∀ (n : Nat) (k s : Int) (h : Nat), chk f n k = some (s, h) → 0 ≤ s ∧ s ≤ k ∧ ∀ i : Nat, s ≤ i → (i : Int) ≤ k → ∃ x, f[i]? = some x ∧ stands f i x
  | 0, _, _, _, e => by cases e
  | n + 1, k, s, h, e => by
    simp only [chk] at e
    split at e
    · rename_i h0
      split at e
      · cases e
      · rename_i x hx
        split at e
        · rename_i ho
          obtain ⟨b1, b2, b3, b4, b5⟩ := kidsC_all (chk_all f n) _ _ _ _ _ h0 e
          refine ⟨b1, b2, fun i h1 h2 => ?_⟩
          by_cases hi : (i : Int) < k
          · exact b4 i h1 hi
          · have hik : i = k.toNat := by omega
            refine ⟨x, by rw [hik, hx], ho, fun k' hk' => ?_⟩
            have := b5 k' (by simpa using hk')
            exact ⟨this.1, by omega, fun ha => by simpa using this.2.2 ha⟩
        · cases e
    · cases e
theorem chk_pos {f : List dFNode} {n : Nat} {k s : Int} {h : Nat} (e : chk f n k = some (s, h)) : 1 ≤ h := by
  cases n with
  | zero => cases e
  | succ n =>
    simp only [chk] at e
    split at e
    · rename_i h0
      split at e
      · cases e
      · split at e
        · exact Nat.le_trans (by omega) (kidsC_all (chk_all f n) _ _ _ _ _ h0 e).2.2.1
        · cases e
    · cases e
def res12 (deep : Int) : Option (Int × Nat) → Int
  | some (s, h) => if deep + h ≤ 12 then s else -1
  | none => -1
theorem wr1 {n : Int} (h0 : -1000000000 ≤ n) (h1 : n ≤ 1000000000) : IntKind.i64.wrap n = n := wr (by omega) (by omega)
section
variable {f : List dFNode} (hl : f.length ≤ 10000000) (hs : ∀ x ∈ f, x.2.2.1.2.2.1.size ≤ 9223372036854775807)
include hl hs
theorem ifrom_loop {n : Nat} (ih : ∀ (k deep : Int), 0 ≤ k → k < n → k < f.length → 0 ≤ deep → deep ≤ 12 → ifrom f k deep = some ((res12 deep (chk f n k), ()), ())) {x : dFNode} {k : Int} (h0 : 0 ≤ k) (hk : f[k.toNat]? = some x) (hkn : k ≤ n) (hkl : x.2.2.2.2.2.1.length ≤ 10000000) :
    ∀ (r suf : List Int) (cur : Int) (h : Nat) (deep : Int), x.2.2.2.2.2.1 = r.reverse ++ suf → 0 ≤ cur → cur ≤ k → 0 ≤ deep → deep + h + 1 ≤ 12 → ifrom_p5 f k deep cur ((r.length : Int) - 1) = some ((res12 deep (kidsC (chk f n) f (decide (x.1 = 6)) r cur h), ()), ())
  | [], suf, cur, h, deep, he, c0, c1, d0, d1 => by
    rw [ifrom_p5_eq, ifF (by simp)]
    simp only [kidsC, res12]
    rw [if_pos (by omega)]
  | kid :: r, suf, cur, h, deep, he, c0, c1, d0, d1 => by
    have hkl2 : k < (f.length : Int) := by
      have := (List.getElem?_eq_some_iff.1 hk).1
      omega
    have he' : x.2.2.2.2.2.1 = r.reverse ++ kid :: suf := by rw [he]; simp
    have hlen : (((kid :: r).length : Int) - 1) = ((r.reverse).length : Int) := by simp
    rw [ifrom_p5_eq, ifT (by rw [hlen]; exact nn _), ix_of h0 hk, hlen, ix_at he', wr1 (n := cur - 1) (by omega) (by omega)]
    simp only [kidsC]
    by_cases e1 : kid = cur - 1
    · rw [if_neg (by simp [e1])]
      by_cases e2 : kid < 0
      · rw [ifT e2, if_neg (by omega)]
        rfl
      · rw [ifF e2]
        have hkd : kid < (f.length : Int) := by omega
        obtain ⟨y, hy⟩ : ∃ y, f[kid.toNat]? = some y := ⟨f[kid.toNat]'(by omega), List.getElem?_eq_getElem _⟩
        rw [ix_of (by omega) hy]
        have har : isAr f kid = decide (y.1 = 3) := by
          unfold isAr
          rw [List.getD_eq_getElem?_getD, hy]
          rfl
        have go : ((ifrom f kid (IntKind.i64.wrap (deep + 1))).bind fun z1 => if decide (z1.1.1 < 0) = true then some ((-1, ()), ()) else ifrom_p5 f k deep z1.1.1 (IntKind.i64.wrap (((r.reverse).length : Int) - 1))) = some ((res12 deep ((chk f n kid).bind fun p => kidsC (chk f n) f (decide (x.1 = 6)) r p.1 (max h p.2)), ()), ()) := by
          have hlr : (r.reverse).length ≤ 10000000 := by
            rw [he', List.length_append] at hkl
            omega
          rw [wr1 (by omega) (by omega), wr1 (by omega) (by omega), ih kid (deep + 1) (by omega) (by omega) hkd (by omega) (by omega), Option.bind_some]
          cases hc : chk f n kid with
          | none => rfl
          | some p =>
            obtain ⟨t, ht⟩ := p
            have ha := chk_all f n _ _ _ hc
            by_cases hd : deep + 1 + ht ≤ 12
            · have er : res12 (deep + 1) (some (t, ht)) = t := if_pos hd
              simp only [er, Option.bind_some]
              rw [ifF (by omega), List.length_reverse, ifrom_loop ih h0 hk hkn hkl r (kid :: suf) t (max h ht) deep he' (by omega) (by omega) d0 (by omega)]
            · have er : res12 (deep + 1) (some (t, ht)) = -1 := if_neg hd
              simp only [er, Option.bind_some]
              rw [ifT (by decide)]
              cases hq : kidsC (chk f n) f (decide (x.1 = 6)) r t (max h ht) with
              | none => rfl
              | some q =>
                obtain ⟨s', h'⟩ := q
                have := (kidsC_all (chk_all f n) _ _ _ _ _ (by omega) hq).2.2.1
                simp only [res12]
                rw [if_neg (by omega)]
        by_cases e3 : y.1 = 3
        · rw [if_pos (by simp [e3]), ix_of h0 hk]
          by_cases e4 : x.1 = 6
          · rw [if_neg (by simp [e4]), if_pos ⟨e1, by omega, fun _ => by simp [e4]⟩]
            exact go
          · rw [if_pos (by simp [e4]), if_neg (by rw [har]; simp [e3, e4])]
            rfl
        · rw [if_neg (by simp [e3]), if_pos ⟨e1, by omega, fun h => by rw [har] at h; simp [e3] at h⟩]
          exact go
    · rw [if_pos (by simpa using e1), if_neg (fun h => e1 h.1)]
      rfl
theorem ifrom_ok : ∀ (n : Nat) (k deep : Int), 0 ≤ k → k < n → k < f.length → 0 ≤ deep → deep ≤ 12 → (∀ x ∈ f, x.2.2.2.2.2.1.length ≤ 10000000) → ifrom f k deep = some ((res12 deep (chk f n k), ()), ())
  | 0, k, deep, h0, h1, _, _, _, _ => by omega
  | n + 1, k, deep, h0, h1, h2, d0, d1, hkl => by
    obtain ⟨x, hx⟩ : ∃ y, f[k.toNat]? = some y := ⟨f[k.toNat]'(by omega), List.getElem?_eq_getElem _⟩
    have hm : x ∈ f := List.mem_of_getElem? hx
    rw [ifrom_eq, ifF (by omega)]
    by_cases hd : deep ≥ 12
    · rw [ifT hd]
      cases hc : chk f (n + 1) k with
      | none => rfl
      | some p =>
        obtain ⟨s, h⟩ := p
        have := chk_pos hc
        simp only [res12]
        rw [if_neg (by omega)]
    · have := hkl x hm
      rw [ifF hd, ix_of h0 hx, iFNode_isOwn_ok (hs x hm), Option.bind_some, ix_of h0 hx, wr1 (by omega) (by omega)]
      simp only [chk, if_pos h0, hx]
      cases ho : okNode x with
      | false => rfl
      | true =>
        simp only [Bool.not_true, Bool.false_eq_true, if_false, if_true]
        have := ifrom_loop hl hs (n := n) (fun k deep a b c d e => ifrom_ok n k deep a b c d e hkl) h0 hx (by omega) this x.2.2.2.2.2.1.reverse [] k 0 deep (by simp) h0 (Int.le_refl _) d0 (by omega)
        rw [List.length_reverse] at this
        exact this
/-! ### The reference's way -/
def res0 : Option (Int × Nat) → Int
  | some (s, _) => s
  | none => -1
theorem sl3Tree_loop {n : Nat} (A : ∀ (i : Nat) (x : dFNode), f[i]? = some x → stands f i x) (ih : ∀ (k : Int), 0 ≤ k → k < n → k < f.length → sl3Tree f k = some ((res0 (chk f n k), ()), ())) {x : dFNode} {k : Int} (h0 : 0 ≤ k) (hk : f[k.toNat]? = some x) (hkn : k ≤ n) (hkl : x.2.2.2.2.2.1.length ≤ 10000000) :
    ∀ (r suf : List Int) (cur : Int) (h : Nat), x.2.2.2.2.2.1 = r.reverse ++ suf → 0 ≤ cur → cur ≤ k → sl3Tree_p3 f k (cur - 1) ((r.length : Int) - 1) = some ((res0 (kidsC (chk f n) f (decide (x.1 = 6)) r cur h), ()), ())
  | [], suf, cur, h, he, c0, c1 => by
    have hkl2 : k < (f.length : Int) := by
      have := (List.getElem?_eq_some_iff.1 hk).1
      omega
    rw [sl3Tree_p3_eq, ifF (by simp), wr1 (by omega) (by omega)]
    simp only [kidsC, res0]
    congr 3
    omega
  | kid :: r, suf, cur, h, he, c0, c1 => by
    have hkl2 : k < (f.length : Int) := by
      have := (List.getElem?_eq_some_iff.1 hk).1
      omega
    have he' : x.2.2.2.2.2.1 = r.reverse ++ kid :: suf := by rw [he]; simp
    have hlen : (((kid :: r).length : Int) - 1) = ((r.reverse).length : Int) := by simp
    have hmem : kid ∈ x.2.2.2.2.2.1 := by rw [he']; simp
    have hst := (A _ _ hk).2 kid hmem
    rw [sl3Tree_p3_eq, ifT (by rw [hlen]; exact nn _)]
    simp only [kidsC]
    by_cases e0 : cur - 1 < 0
    · rw [ifT e0, if_neg (by omega)]
      rfl
    · rw [ifF e0, ix_of h0 hk, hlen, ix_at he']
      by_cases e1 : kid = cur - 1
      · have hkd : kid < (f.length : Int) := by omega
        have hlr : (r.reverse).length ≤ 10000000 := by
          rw [he', List.length_append] at hkl
          omega
        rw [if_neg (by simp [e1]), if_pos ⟨e1, hst.1, fun ha => by simpa using hst.2.2 ha⟩, ← e1, ih kid hst.1 (by omega) hkd, Option.bind_some, wr1 (n := (r.reverse.length : Int) - 1) (by omega) (by omega)]
        cases hc : chk f n kid with
        | none => rfl
        | some p =>
          obtain ⟨t, ht⟩ := p
          have ha := chk_all f n _ _ _ hc
          have er : res0 (some (t, ht)) = t := rfl
          simp only [er, Option.bind_some]
          rw [ifF (by omega), wr1 (n := t - 1) (by omega) (by omega), List.length_reverse, sl3Tree_loop A ih h0 hk hkn hkl r (kid :: suf) t (max h ht) he' (by omega) (by omega)]
      · rw [if_pos (by simpa using e1), if_neg (fun h => e1 h.1)]
        rfl
theorem sl3Tree_ok (A : ∀ (i : Nat) (x : dFNode), f[i]? = some x → stands f i x) (hkl : ∀ x ∈ f, x.2.2.2.2.2.1.length ≤ 10000000) : ∀ (n : Nat) (k : Int), 0 ≤ k → k < n → k < f.length → sl3Tree f k = some ((res0 (chk f n k), ()), ())
  | 0, k, h0, h1, _ => by omega
  | n + 1, k, h0, h1, h2 => by
    obtain ⟨x, hx⟩ : ∃ y, f[k.toNat]? = some y := ⟨f[k.toNat]'(by omega), List.getElem?_eq_getElem _⟩
    have hm : x ∈ f := List.mem_of_getElem? hx
    have hk := hkl x hm
    rw [sl3Tree_eq, ix_of h0 hx, wr1 (n := k - 1) (by omega) (by omega), wr1 (by omega) (by omega)]
    simp only [chk, if_pos h0, hx, (A _ _ hx).1, if_true]
    have := sl3Tree_loop hl hs (n := n) A (sl3Tree_ok A hkl n) h0 hx (by omega) hk x.2.2.2.2.2.1.reverse [] k 0 (by simp) h0 (Int.le_refl _)
    rw [List.length_reverse] at this
    exact this
/-- The deepest of some kids. -/
def hmx (c : Int → Option (Int × Nat)) : List Int → Nat
  | [] => 0
  | k :: l => max (((c k).map (·.2)).getD 0) (hmx c l)
omit hl hs in
theorem hmx_snoc (c : Int → Option (Int × Nat)) (k : Int) : ∀ l, hmx c (l ++ [k]) = max (hmx c l) (((c k).map (·.2)).getD 0)
  | [] => by simp [hmx]
  | y :: l => by
    simp only [List.cons_append, hmx, hmx_snoc c k l]
    omega
omit hl hs in
theorem hmx_rev (c : Int → Option (Int × Nat)) : ∀ l, hmx c l.reverse = hmx c l
  | [] => rfl
  | y :: l => by
    rw [List.reverse_cons, hmx_snoc, hmx_rev c l]
    simp only [hmx]
    omega
omit hl hs in
theorem kidsC_hmx {c : Int → Option (Int × Nat)} {call : Bool} : ∀ (l : List Int) (cur : Int) (h : Nat) (s : Int) (h' : Nat), kidsC c f call l cur h = some (s, h') → h' = max h (hmx c l) + 1 ∧ ∀ k ∈ l, ∃ p, c k = some p
  | [], cur, h, s, h', e => by
    simp only [kidsC, Option.some.injEq, Prod.mk.injEq] at e
    exact ⟨by simp only [hmx]; omega, fun k hk => by cases hk⟩
  | kid :: l, cur, h, s, h', e => by
    simp only [kidsC] at e
    split at e
    · rw [Option.bind_eq_some_iff] at e
      obtain ⟨⟨t, ht⟩, e1, e2⟩ := e
      obtain ⟨b1, b2⟩ := kidsC_hmx l t (max h ht) s h' e2
      refine ⟨?_, fun k hk => ?_⟩
      · simp only [hmx, e1, Option.map_some, Option.getD_some]
        omega
      · rcases List.mem_cons.1 hk with rfl | hk
        · exact ⟨_, e1⟩
        · exact b2 k hk
    · cases e
theorem sl3Deep_loop {n : Nat} {c : Int → Option (Int × Nat)} (ih : ∀ (k : Int) (s : Int) (h : Nat), k < n → c k = some (s, h) → sl3Deep f k = some (((h : Int), ()), ())) {x : dFNode} {k : Int} (h0 : 0 ≤ k) (hk : f[k.toNat]? = some x) (hkn : k ≤ n) (hkl : x.2.2.2.2.2.1.length ≤ 10000000) (hall : ∀ k' ∈ x.2.2.2.2.2.1, (∃ p, c k' = some p) ∧ k' < k) (hb : hmx c x.2.2.2.2.2.1 ≤ 10000000) :
    ∀ (ys pre : List Int), x.2.2.2.2.2.1 = pre ++ ys → sl3Deep_p3 f k (hmx c pre : Int) (pre.length : Int) = some ((((hmx c x.2.2.2.2.2.1 + 1 : Nat) : Int), ()), ())
  | [], pre, he => by
    have : pre = x.2.2.2.2.2.1 := by rw [he]; simp
    rw [sl3Deep_p3_eq, ix_of h0 hk, ifF (nlt_at he), this, wr1 (by omega) (by omega)]
    rfl
  | y :: ys, pre, he => by
    obtain ⟨⟨⟨s, h⟩, hc⟩, hlt⟩ := hall y (by rw [he]; simp)
    rw [sl3Deep_p3_eq, ix_of h0 hk, ifT (lt_at he), ix_of h0 hk, ix_at he, ih y s h (by omega) hc, Option.bind_some, wrap_at he (by omega)]
    have : (if ((hmx c pre : Nat) : Int) < (h : Int) then (h : Int) else ((hmx c pre : Nat) : Int)) = (hmx c (pre ++ [y]) : Int) := by
      rw [hmx_snoc, hc]
      simp only [Option.map_some, Option.getD_some]
      split <;> omega
    rw [this]
    exact sl3Deep_loop ih h0 hk hkn hkl hall hb ys _ (next_at he)
theorem sl3Deep_ok (hkl : ∀ x ∈ f, x.2.2.2.2.2.1.length ≤ 10000000) : ∀ (n : Nat) (k s : Int) (h : Nat), chk f n k = some (s, h) → n ≤ 10000000 → h ≤ n ∧ sl3Deep f k = some (((h : Int), ()), ())
  | 0, _, _, _, e, _ => by cases e
  | n + 1, k, s, h, e, hn => by
    have hall := chk_all f _ _ _ _ e
    simp only [chk] at e
    split at e
    · rename_i h0
      split at e
      · cases e
      · rename_i x hx
        split at e
        · have hm : x ∈ f := List.mem_of_getElem? hx
          obtain ⟨b1, b2⟩ := kidsC_hmx _ _ _ _ _ e
          have hst := kidsC_all (chk_all f n) _ _ _ _ _ h0 e
          have hhm : hmx (chk f n) x.2.2.2.2.2.1 ≤ n := by
            have : ∀ l : List Int, hmx (chk f n) l ≤ n := by
              intro l
              induction l with
              | nil => exact Nat.zero_le _
              | cons y l ih =>
                simp only [hmx]
                cases hc : chk f n y with
                | none => simpa using ih
                | some p =>
                  have := (sl3Deep_ok hkl n y p.1 p.2 hc (by omega)).1
                  simp only [Option.map_some, Option.getD_some]
                  omega
            exact this _
          rw [hmx_rev] at b1
          refine ⟨by omega, ?_⟩
          rw [sl3Deep_eq]
          have hk2 : ∀ k' ∈ x.2.2.2.2.2.1, (∃ p, chk f n k' = some p) ∧ k' < k := fun k' hk' => ⟨b2 k' (by simpa using hk'), (hst.2.2.2.2 k' (by simpa using hk')).2.1⟩
          have := sl3Deep_loop hl hs (n := k.toNat) (c := chk f n) (fun k' s' h' _ hc => (sl3Deep_ok hkl n k' s' h' hc (by omega)).2) h0 hx (by omega) (hkl x hm) hk2 (by omega) x.2.2.2.2.2.1 [] rfl
          rw [b1]
          have hz : max 0 (hmx (chk f n) x.2.2.2.2.2.1) = hmx (chk f n) x.2.2.2.2.2.1 := by omega
          rw [hz]
          exact this
        · cases e
    · cases e
end
end Go.Proofs.YtiligfmembmapaaGreatDoor.Abs
