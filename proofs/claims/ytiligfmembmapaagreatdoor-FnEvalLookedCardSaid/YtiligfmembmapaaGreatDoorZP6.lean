/- Values of cells: order of places, what is right, what stands at a place; calls' values. -/
import Derived.Test.YtiligfmembmapaaGreatDoorZP1
import Derived.Test.YtiligfmembmapaaGreatDoorZPT35
set_option linter.unusedVariables false
set_option linter.unusedSimpArgs false
set_option linter.unusedSectionVars false
namespace Go.Proofs.YtiligfmembmapaaGreatDoor.Abs
open Go

def ahead (a b : dRef) : Bool := decide (a.2.1 < b.2.1) || (decide (a.2.1 = b.2.1) && decide (a.1 < b.1))
def cmpRE (a b : dRef) : Int := if cmpI a.2.1 b.2.1 = 0 then cmpI a.1 b.1 else cmpI a.2.1 b.2.1
theorem sl1Ahead_okE (a b : dRef) : sl1Ahead a b = some ((ahead a b, ()), ()) := by
  rw [sl1Ahead_eq]
  unfold ahead
  by_cases h1 : a.2.1 < b.2.1
  · simp [h1]
  · by_cases h2 : a.2.1 = b.2.1 <;> simp [h1, h2]
theorem icompareRefs_okE (a b : dRef) : icompareRefs a b = some ((cmpRE a b, ()), ()) := by
  rw [icompareRefs_eq]
  simp only [cmpInt_ok, Option.bind_some]
  rw [cmpOr_ok (by simp)]
  unfold cmpRE
  by_cases h1 : cmpI a.2.1 b.2.1 = 0
  · by_cases h2 : cmpI a.1 b.1 = 0 <;> simp [List.find?, h1, h2]
  · simp [List.find?, h1]
theorem cmpR_lt {a b : dRef} : cmpRE a b < 0 ↔ ahead a b = true := by
  unfold cmpRE ahead cmpI
  simp only [Bool.or_eq_true, Bool.and_eq_true, decide_eq_true_eq]
  by_cases h1 : a.2.1 < b.2.1
  · simp [h1]
  · by_cases h2 : b.2.1 < a.2.1
    · simp [h1, h2]
      omega
    · have h3 : a.2.1 = b.2.1 := by omega
      by_cases h4 : a.1 < b.1
      · simp [h3, h4]
      · by_cases h5 : b.1 < a.1 <;> simp [h3, h4, h5]
theorem cmpR_ge {a b : dRef} : (cmpRE a b ≥ 0) ↔ ahead a b = false := by
  rw [ge_iff_le, ← Int.not_lt, cmpR_lt]
  simp
theorem ahead_irreflE (a : dRef) : ahead a a = false := by simp [ahead]
theorem ahead_transE {a b c : dRef} (h : ahead a b = true) (k : ahead b c = true) : ahead a c = true := by
  simp only [ahead, Bool.or_eq_true, Bool.and_eq_true, decide_eq_true_eq] at *
  omega
theorem ref_extE {a b : dRef} (h1 : a.1 = b.1) (h2 : a.2.1 = b.2.1) : a = b := by
  obtain ⟨a1, a2, ⟨⟩⟩ := a
  obtain ⟨b1, b2, ⟨⟩⟩ := b
  simp only at h1 h2
  rw [h1, h2]
theorem ahead_totalE (a b : dRef) : ahead a b = true ∨ a = b ∨ ahead b a = true := by
  simp only [ahead, Bool.or_eq_true, Bool.and_eq_true, decide_eq_true_eq]
  by_cases h1 : a.2.1 = b.2.1
  · by_cases h2 : a.1 = b.1
    · exact .inr (.inl (ref_extE h2 h1))
    · omega
  · omega
theorem ahead_asymmE {a b : dRef} (h : ahead a b = true) : ahead b a = false := by
  cases hb : ahead b a with
  | false => rfl
  | true =>
    have := ahead_transE h hb
    rw [ahead_irreflE] at this
    cases this
theorem ahead_neE {a b : dRef} (h : ahead a b = true) : a ≠ b := by
  rintro rfl
  rw [ahead_irreflE] at h
  cases h
/-- Places one ahead of the other, behind some place. -/
def ascB : Option dRef → List dRef → Bool
  | _, [] => true
  | none, b :: l => ascB (some b) l
  | some a, b :: l => ahead a b && ascB (some b) l
theorem ascB_cons {o : Option dRef} {b : dRef} {l : List dRef} : ascB o (b :: l) = ((match o with | some a => ahead a b | none => true) && ascB (some b) l) := by
  cases o <;> simp [ascB]
theorem ascB_pw : ∀ {l : List dRef} {a : dRef}, ascB (some a) l = true → (∀ b ∈ l, ahead a b = true) ∧ l.Pairwise fun a b => ahead a b = true
  | [], a, _ => ⟨fun b hb => (by cases hb), List.Pairwise.nil⟩
  | b :: l, a, h => by
    simp only [ascB, Bool.and_eq_true] at h
    obtain ⟨h1, h2⟩ := ascB_pw h.2
    refine ⟨fun c hc => ?_, List.pairwise_cons.2 ⟨h1, h2⟩⟩
    rcases List.mem_cons.1 hc with rfl | hc
    · exact h.1
    · exact ahead_transE h.1 (h1 c hc)
theorem ascB_none {l : List dRef} (h : ascB none l = true) : l.Pairwise fun a b => ahead a b = true := by
  cases l with
  | nil => exact List.Pairwise.nil
  | cons a l =>
    obtain ⟨h1, h2⟩ := ascB_pw (l := l) (a := a) h
    exact List.pairwise_cons.2 ⟨h1, h2⟩
def okVs (l : List dCellValue) : Bool := decide ((l.length : Int) ≤ 120) && ((l.all fun c => okRef c.1 && okVal c.2.1) && ascB none (l.map (·.1)))
theorem snoc_of {α : Type} {pre : List α} (h : pre ≠ []) : ∃ q p, pre = q ++ [p] := ⟨pre.dropLast, pre.getLast h, (List.dropLast_concat_getLast h).symm⟩
section
variable {xs : List dCellValue} (hl : xs.length ≤ 10000000) (hs : ∀ c ∈ xs, c.2.1.2.2.1.size ≤ 9223372036854775807)
include hl hs
theorem sValuesOk_loop : ∀ (ys pre : List dCellValue), xs = pre ++ ys → sValuesOk_p4 xs (pre.length : Int) = some (((ys.all fun c => okRef c.1 && okVal c.2.1) && ascB (pre.getLast?.map (·.1)) (ys.map (·.1)), ()), ())
  | [], pre, he => by
    rw [sValuesOk_p4_eq, ifF (nlt_at he)]
    simp [ascB]
  | y :: ys, pre, he => by
    have ih := sValuesOk_loop ys _ (next_at he)
    have hy := hs y (by rw [he]; simp)
    rw [sValuesOk_p4_eq, ifT (lt_at he)]
    simp only [ix_at he, sRefOk_ok, sValueOk_ok hy, Option.bind_some, wrap_at he (by omega), ih]
    simp only [List.all_cons, List.map_cons, ascB_cons, List.getLast?_append, List.getLast?_singleton, Option.some_or, Option.map_some]
    cases okRef y.1 with
    | false => simp
    | true =>
      cases okVal y.2.1 with
      | false => simp
      | true =>
        by_cases hp : pre = []
        · subst hp
          simp
        · obtain ⟨q, p, rfl⟩ := snoc_of hp
          have hq : xs = q ++ p :: (y :: ys) := by rw [he]; simp
          have hw : (((q ++ [p]).length : Nat) : Int) - 1 = (q.length : Int) := by simp
          have h0 : ((q ++ [p]).length : Int) > 0 := by rw [List.length_append, List.length_singleton]; omega
          simp only [hw, decide_eq_true h0, if_true, Bool.not_true, Bool.false_eq_true, if_false]
          rw [wr1 (by omega) (by have := lt_at hq; omega), ix_at hq, sl1Ahead_okE, Option.bind_some]
          simp only [List.getLast?_append, List.getLast?_singleton, Option.some_or, Option.map_some, Bool.true_and]
          cases ahead p.1 y.1 <;> simp
theorem sValuesOk_ok : sValuesOk xs = some ((okVs xs, ()), ()) := by
  rw [sValuesOk_eq]
  unfold okVs
  by_cases h : (xs.length : Int) > 120
  · rw [ifT h, decide_eq_false (by omega)]
    rfl
  · rw [ifF h, decide_eq_true (by omega)]
    have := sValuesOk_loop hl hs xs [] rfl
    simpa using this
theorem iValuesOk_loop : ∀ (ys pre : List dCellValue), xs = pre ++ ys → iValuesOk_p2 xs xs (xs.length : Int) (pre.length : Int) = some ((((ys.all fun c => okRef c.1 && okVal c.2.1) && ascB (pre.getLast?.map (·.1)) (ys.map (·.1))) && decide ((xs.length : Int) ≤ 120), ()), ())
  | [], pre, he => by
    rw [iValuesOk_p2_eq, ifF (nlt_at he)]
    simp [ascB]
  | y :: ys, pre, he => by
    have ih := iValuesOk_loop ys _ (next_at he)
    have hy := hs y (by rw [he]; simp)
    rw [iValuesOk_p2_eq, ifT (lt_at he)]
    simp only [ix_at he, iRefOk_ok, iValueOk_ok hy, Option.bind_some, wrap_at he (by omega), ih]
    simp only [List.all_cons, List.map_cons, ascB_cons, List.getLast?_append, List.getLast?_singleton, Option.some_or, Option.map_some]
    cases okRef y.1 with
    | false => simp
    | true =>
      by_cases hp : pre = []
      · subst hp
        cases okVal y.2.1 <;> simp
      · obtain ⟨q, p, rfl⟩ := snoc_of hp
        have hq : xs = q ++ p :: (y :: ys) := by rw [he]; simp
        have hw : (((q ++ [p]).length : Nat) : Int) - 1 = (q.length : Int) := by simp
        have h0 : ((q ++ [p]).length : Int) > 0 := by rw [List.length_append, List.length_singleton]; omega
        simp only [hw, decide_eq_true h0, if_true, Bool.not_true, Bool.false_eq_true, if_false]
        rw [wr1 (by omega) (by have := lt_at hq; omega), ix_at hq, icompareRefs_okE, Option.bind_some]
        simp only [List.getLast?_append, List.getLast?_singleton, Option.some_or, Option.map_some, Bool.true_and]
        cases ha : ahead p.1 y.1 with
        | true =>
          have : ¬ (cmpRE p.1 y.1 ≥ 0) := by rw [cmpR_ge, ha]; simp
          rw [ifF this]
          cases okVal y.2.1 <;> simp
        | false =>
          rw [ifT (cmpR_ge.2 ha)]
          cases okVal y.2.1 <;> simp
theorem iValuesOk_ok : iValuesOk xs = some ((okVs xs, ()), ()) := by
  rw [iValuesOk_eq]
  unfold okVs
  have := iValuesOk_loop hl hs xs [] rfl
  rw [Bool.and_comm]
  simpa using this
end
/-! ### What stands at a place -/
theorem eqRf {a b : dRef} : (eqB tRef a b = true) = (a = b) := propext (eqB_iff rfl)
/-- The value at a place. -/
def lookV : List dCellValue → dRef → dValue
  | [], _ => v0
  | c :: l, r => if c.1 = r then c.2.1 else lookV l r
section
variable {xs : List dCellValue} (hl : xs.length ≤ 10000000)
include hl
theorem sl6At_loop {r : dRef} {a b : Int} {s : ByteArray} : ∀ (ys pre : List dCellValue), xs = pre ++ ys → sl6At_p2 xs (pre.length : Int) r.1 r.2.1 a b s = some ((lookV ys r, ()), ())
  | [], pre, he => by
    rw [sl6At_p2_eq, ifF (nlt_at he)]
    rfl
  | y :: ys, pre, he => by
    rw [sl6At_p2_eq, ifT (lt_at he), ix_at he, ix_at he, wrap_at he (by omega), sl6At_loop ys _ (next_at he)]
    show (if eqB tRef y.1 r = true then _ else _) = _
    rw [lookV]
    by_cases h : y.1 = r
    · rw [if_pos (by rw [eqRf]; exact h), if_pos h]
    · rw [if_neg (by rw [eqRf]; exact h), if_neg h]
theorem sl6At_ok (r : dRef) : sl6At xs r = some ((lookV xs r, ()), ()) := by
  rw [sl6At_eq]
  exact sl6At_loop hl xs [] rfl
theorem ilookup_loop {r : dRef} {a b : Int} {s : ByteArray} : ∀ (ys pre : List dCellValue), xs = pre ++ ys → ilookup_p2 xs (xs.length : Int) (pre.length : Int) r.1 r.2.1 a b s = some ((lookV ys r, ()), ())
  | [], pre, he => by
    rw [ilookup_p2_eq, ifF (nlt_at he)]
    rfl
  | y :: ys, pre, he => by
    rw [ilookup_p2_eq, ifT (lt_at he), ix_at he, wrap_at he (by omega), ilookup_loop ys _ (next_at he)]
    show (if eqB tRef y.1 r = true then _ else _) = _
    rw [lookV]
    by_cases h : y.1 = r
    · rw [if_pos (by rw [eqRf]; exact h), if_pos h]
    · rw [if_neg (by rw [eqRf]; exact h), if_neg h]
theorem ilookup_ok (r : dRef) : ilookup xs r = some ((lookV xs r, ()), ()) := by
  rw [ilookup_eq]
  exact ilookup_loop hl xs [] rfl
end
theorem okV0 : okVal v0 = true := by decide
theorem lookV_ok : ∀ {l : List dCellValue} {r : dRef}, (∀ c ∈ l, okVal c.2.1 = true) → okVal (lookV l r) = true
  | [], r, _ => okV0
  | c :: l, r, h => by
    unfold lookV
    split
    · exact h c (List.mem_cons_self ..)
    · exact lookV_ok fun d hd => h d (List.mem_cons_of_mem _ hd)
theorem okVs_vals {l : List dCellValue} (h : okVs l = true) : ∀ c ∈ l, okVal c.2.1 = true := by
  unfold okVs at h
  simp only [Bool.and_eq_true, List.all_eq_true] at h
  exact fun c hc => (h.2.1 c hc).2
/-! ### All that is said is right -/
theorem okErr {n : Int} (h0 : 1 ≤ n) (h1 : n ≤ 5) : okVal (vE n) = true := by
  unfold okVal vE
  simp [inB]
  omega
theorem okN {n : Int} (h0 : -1000000000000000 ≤ n) (h1 : n ≤ 1000000000000000) : okVal (vN n) = true := by
  unfold okVal vN
  simp [inB]
  omega
theorem okB (b : Bool) : okVal (vB b) = true := by cases b <;> decide
theorem okBnd (n : Int) : okVal (bnd n) = true := by
  unfold bnd
  split
  · have := inB_iff.1 ‹_›
    exact okN this.1 this.2
  · exact okErr (by decide) (by decide)
theorem okNon (v : dValue) : okVal (nonV v) = true := by
  unfold nonV
  split
  · split
    · assumption
    · exact okErr (by decide) (by decide)
  · exact okErr (by decide) (by decide)
theorem okTwo {f : Int → Int → dValue} (hf : ∀ x y, okVal (f x y) = true) (a b : dValue) : okVal (two f a b) = true := by
  unfold two
  split
  · split
    · exact hf _ _
    · exact okNon _
  · exact okNon _
theorem okAdd (a b : dValue) : okVal (addV a b) = true := okTwo (fun _ _ => okBnd _) a b
theorem okSub (a b : dValue) : okVal (subV a b) = true := okTwo (fun _ _ => okBnd _) a b
theorem okMul (a b : dValue) : okVal (mulV a b) = true := okTwo (fun x y => by
  unfold mulF
  split
  · exact okN (by omega) (by omega)
  · exact okErr (by decide) (by decide)) a b
theorem okDiv (a b : dValue) : okVal (divV a b) = true := okTwo (fun x y => by
  split
  · exact okErr (by decide) (by decide)
  · exact okBnd _) a b
theorem okNeg (a : dValue) : okVal (negV a) = true := okSub _ _
/-- Digits and signs: what numbers' texts are made of. -/
theorem digits_pr : ∀ (n u : Nat), u ≤ n → ∀ b ∈ Lib.decDigits u, 48 ≤ b.toNat ∧ b.toNat ≤ 57 := by
  intro n
  induction n with
  | zero =>
    intro u h b hb
    rw [Lib.decDigits, dif_pos (by omega)] at hb
    rw [List.mem_singleton.1 hb]
    have : u = 0 := by omega
    subst this
    decide
  | succ n ih =>
    intro u h b hb
    rw [Lib.decDigits] at hb
    split at hb
    · rename_i h10
      rw [List.mem_singleton.1 hb]
      simp only [UInt8.toNat_ofNat']
      omega
    · rcases List.mem_append.1 hb with hb | hb
      · exact ih (u / 10) (by omega) b hb
      · rw [List.mem_singleton.1 hb]
        simp only [UInt8.toNat_ofNat']
        omega
theorem bts_mk (l : List UInt8) : bts ⟨l.toArray⟩ = l.map fun b => (b.toNat : Int) := by simp [bts]
theorem itoa_plain (n : Int) : plain (itoaB n) = true := by
  have hu : ∀ u : Nat, plain ⟨(Lib.decDigits u).toArray⟩ = true := by
    intro u
    unfold plain
    rw [bts_mk, List.all_eq_true]
    intro x hx
    obtain ⟨b, hb, rfl⟩ := List.mem_map.1 hx
    have := digits_pr u u (Nat.le_refl _) b hb
    unfold prB
    simp
    omega
  by_cases h : n < 0
  · rw [itoaB_neg h, show -n = ((-n).toNat : Int) by omega, itoaB_nat]
    have := hu (-n).toNat
    unfold plain at this ⊢
    rw [bts_append, List.all_append, this]
    decide
  · rw [show n = (n.toNat : Int) by omega, itoaB_nat]
    exact hu _
theorem plain_app {a b : ByteArray} : plain (a ++ b) = (plain a && plain b) := by
  unfold plain
  rw [bts_append, List.all_append]
theorem errT_plain (n : Int) : plain (errT n) = true := by
  have h : ∀ i : Nat, i < 6 → plain (errL.getD i eS) = true := by decide
  unfold errT
  by_cases hn : n.toNat < 6
  · exact h _ hn
  · rw [List.getD_eq_getElem?_getD, List.getElem?_eq_none (by show 6 ≤ n.toNat; omega)]
    decide
theorem okVal_2E {v : dValue} (h : okVal v = true) (k : v.1 = 2) : v.2.1 = 0 ∧ plain v.2.2.1 = true ∧ v.2.2.1.size ≤ 200 := by
  unfold okVal at h
  rw [if_pos k] at h
  simp only [Bool.and_eq_true, decide_eq_true_eq] at h
  exact ⟨h.1, h.2.1, by omega⟩
theorem valT_plain {v : dValue} (h : okVal v = true) : plain (valT v) = true := by
  unfold valT
  split
  · exact itoa_plain _
  · split
    · rw [plain_app, (okVal_2E h ‹_›).2.1]
      decide
    · split
      · unfold boolT
        split <;> decide
      · split
        · exact errT_plain _
        · decide
theorem txt_plain {v : dValue} (h : okVal v = true) : plain (txt v) = true := by
  unfold txt
  split
  · exact (okVal_2E h ‹_›).2.1
  · exact valT_plain h
theorem okT {s : ByteArray} (h : plain s = true) (k : s.size ≤ 200) : okVal (vT s) = true := by
  unfold okVal vT
  simp [h]
  omega
theorem okJoin (a b : dValue) : okVal (joinV a b) = true := by
  unfold joinV
  split
  · split
    · split
      · exact okErr (by decide) (by decide)
      · rename_i h1 h2 h3
        refine okT ?_ (by rw [size_append]; omega)
        rw [plain_app, txt_plain (isTx_ok h1), txt_plain (isTx_ok h2)]
        rfl
    · exact okNon _
  · exact okNon _
theorem okHeld (op : Int) (a b : dValue) : okVal (heldV op a b) = true := by
  unfold heldV
  split
  · split
    · split
      · split
        · assumption
        · split
          · assumption
          · exact okB _
      · exact okErr (by decide) (by decide)
    · exact okErr (by decide) (by decide)
  · exact okErr (by decide) (by decide)
end Go.Proofs.YtiligfmembmapaaGreatDoor.Abs
/- What calls make of their values. -/
set_option linter.unusedVariables false
set_option linter.unusedSimpArgs false
set_option linter.unusedSectionVars false
namespace Go.Proofs.YtiligfmembmapaaGreatDoor.Abs
open Go

def isTru (v : dValue) : Bool := okVal v && (decide (v.1 = 0) || decide (v.1 = 1) || decide (v.1 = 3))
theorem iasTruth_ok {v : dValue} (h : v.2.2.1.size ≤ 9223372036854775807) : iasTruth v = some ((decide (v.2.1 ≠ 0), isTru v, ()), ()) := by
  rw [iasTruth_eq]
  unfold isTru
  simp only [iValueOk_ok h, Option.bind_some, beq_iff_eq]
  have hb : (v.2.1 != 0) = decide (v.2.1 ≠ 0) := by by_cases h : v.2.1 = 0 <;> simp [h]
  rw [hb]
  cases okVal v
  · rfl
  · by_cases h0 : v.1 = 0
    · simp [h0]
    · by_cases h1 : v.1 = 1
      · simp [h1]
      · simp [h0, h1, beqI]
theorem sl6Bool_ok {v : dValue} (h : okVal v = true) : sl6Bool v = some ((if isTru v = true then decide (v.2.1 ≠ 0) else false, if isTru v = true then v0 else nonV v, ()), ()) := by
  rw [sl6Bool_eq]
  unfold isTru nonV
  simp only [sl2Error_ok, Option.bind_some, beq_iff_eq, h, if_true, Bool.true_and]
  rcases okVal_kind h with k | k | k | k | k
  · have : v.2.1 = 0 := by
      unfold okVal at h
      rw [if_neg (by omega), if_pos k] at h
      simp only [Bool.and_eq_true, decide_eq_true_eq] at h
      exact h.2
    simp [k, this, v0]
  · have hb : (v.2.1 != 0) = decide (v.2.1 ≠ 0) := by by_cases h : v.2.1 = 0 <;> simp [h]
    simp [k, hb, v0]
  · simp [k]
  · have := okVal_3 h k
    have : v.2.1 = 0 ∨ v.2.1 = 1 := by omega
    rcases this with h1 | h1 <;> simp [k, h1, v0]
  · simp [k]
/-- Whether all, or one, of some values are true. -/
def tog (a : Bool) : List dValue → Bool → Bool → dValue
  | [], all, one => vB (if a = true then all else one)
  | v :: l, all, one => if isTru v = true then tog a l (all && decide (v.2.1 ≠ 0)) (one || decide (v.2.1 ≠ 0)) else nonV v
def sumL : List dValue → dValue → dValue
  | [], s => s
  | v :: l, s => if v.1 = 4 then v else if v.1 = 1 then (if (addV s v).1 = 4 then addV s v else sumL l (addV s v)) else sumL l s
def gatL (op : Int) : List dValue → Int → Int → Int → dValue
  | [], l, m, c => if op = 2 then vN l else if op = 3 then vN m else vN c
  | v :: t, l, m, c => if v.1 = 4 ∧ op ≠ 4 then v else if v.1 = 1 then (if c = 0 then gatL op t v.2.1 v.2.1 1 else gatL op t (if v.2.1 < l then v.2.1 else l) (if m < v.2.1 then v.2.1 else m) (c + 1)) else gatL op t l m c
theorem tog_cons (a : Bool) (v : dValue) (l : List dValue) (all one : Bool) : tog a (v :: l) all one = if isTru v = true then tog a l (all && decide (v.2.1 ≠ 0)) (one || decide (v.2.1 ≠ 0)) else nonV v := rfl
theorem sumL_cons (v : dValue) (l : List dValue) (s : dValue) : sumL (v :: l) s = if v.1 = 4 then v else if v.1 = 1 then (if (addV s v).1 = 4 then addV s v else sumL l (addV s v)) else sumL l s := rfl
theorem gatL_cons (op : Int) (v : dValue) (t : List dValue) (l m c : Int) : gatL op (v :: t) l m c = if v.1 = 4 ∧ op ≠ 4 then v else if v.1 = 1 then (if c = 0 then gatL op t v.2.1 v.2.1 1 else gatL op t (if v.2.1 < l then v.2.1 else l) (if m < v.2.1 then v.2.1 else m) (c + 1)) else gatL op t l m c := rfl
section
variable {xs : List dValue} (hl : xs.length ≤ 100000000) (hv : ∀ v ∈ xs, okVal v = true)
include hl hv
theorem itogether_loop {op : Int} {p q : Int} {s : ByteArray} : ∀ (ys pre : List dValue) (all one : Bool), xs = pre ++ ys → itogether_p3 op all one xs (xs.length : Int) (pre.length : Int) p q s = some ((tog (decide (op = 6)) ys all one, ()), ())
  | [], pre, all, one, he => by
    rw [itogether_p3_eq, ifF (nlt_at he)]
    by_cases h : op = 6 <;> simp [h, itruth_ok, tog]
  | y :: ys, pre, all, one, he => by
    have hy := hv y (by rw [he]; simp)
    rw [itogether_p3_eq, ifT (lt_at he), ix_at he, iasTruth_ok (okVal_big hy), Option.bind_some, wrap_at he (by omega)]
    simp only [itogether_loop ys _ _ _ (next_at he), inone_ok (okVal_big hy), Option.bind_some]
    rw [tog_cons]
    cases isTru y
    · simp
    · cases all <;> cases one <;> simp
theorem itogether_ok (op : Int) : itogether op xs = some ((tog (decide (op = 6)) xs true false, ()), ()) := by
  rw [itogether_eq]
  exact itogether_loop hl hv xs [] true false rfl
theorem isummed_loop {p q : Int} {u : ByteArray} : ∀ (ys pre : List dValue) (s : dValue), xs = pre ++ ys → okVal s = true → s.1 ≠ 4 → isummed_p3 xs (xs.length : Int) (pre.length : Int) p q u s.1 s.2.1 s.2.2.1 = some ((sumL ys s, ()), ())
  | [], pre, s, he, hs, h4 => by
    rw [isummed_p3_eq, ifF (nlt_at he)]
    rfl
  | y :: ys, pre, s, he, hs, h4 => by
    have hy := hv y (by rw [he]; simp)
    rw [isummed_p3_eq, ifT (lt_at he), ix_at he, wrap_at he (by omega)]
    show (if (y.1 == 4) = true then _ else if (y.1 == 1) = true then (iAdd s y).bind _ else _) = _
    rw [iAdd_ok (okVal_big hs) (okVal_big hy), Option.bind_some]
    rw [sumL_cons]
    by_cases k4 : y.1 = 4
    · simp [k4]
    · by_cases k1 : y.1 = 1
      · by_cases ka : (addV s y).1 = 4
        · simp [k1, ka]
        · simp only [k1, ka, beq_iff_eq, if_true, if_false]
          rw [if_neg (by decide), if_neg (by decide)]
          exact isummed_loop ys _ (addV s y) (next_at he) (okAdd _ _) ka
      · simp only [k4, k1, h4, beq_iff_eq, if_false]
        exact isummed_loop ys _ s (next_at he) hs h4
theorem isummed_ok : isummed xs = some ((sumL xs (vN 0), ()), ()) := by
  rw [isummed_eq, inumber_ok, Option.bind_some]
  exact isummed_loop hl hv xs [] (vN 0) rfl (okN (by decide) (by decide)) (by decide)
theorem igathered_loop {op : Int} {p q : Int} {u : ByteArray} : ∀ (ys pre : List dValue) (l m c : Int), xs = pre ++ ys → 0 ≤ c → c ≤ pre.length → igathered_p3 op l m c xs (xs.length : Int) (pre.length : Int) p q u = some ((gatL op ys l m c, ()), ())
  | [], pre, l, m, c, he, h0, h1 => by
    rw [igathered_p3_eq, ifF (nlt_at he)]
    unfold gatL
    by_cases h2 : op = 2
    · simp [h2, inumber_ok]
    · by_cases h3 : op = 3 <;> simp [h2, h3, inumber_ok]
  | y :: ys, pre, l, m, c, he, h0, h1 => by
    have hlt := lt_at he
    have ih := fun l m c h0 h1 => igathered_loop (op := op) (p := p) (q := q) (u := u) ys _ l m c (next_at he) h0 h1
    rw [igathered_p3_eq, ifT hlt, ix_at he, wrap_at he (by omega)]
    rw [wr (n := c + 1) (by omega) (by omega)]
    have hp : ((pre ++ [y]).length : Int) = pre.length + 1 := by simp
    generalize ((pre ++ [y]).length : Int) = w at ih hp ⊢
    rw [gatL_cons]
    simp only [beq_iff_eq, bne_iff_ne, ne_eq]
    by_cases hc : c = 0
    · subst hc
      have e1 := ih y.2.1 y.2.1 1 (by decide) (by omega)
      have e2 := ih l m 0 (by decide) (by omega)
      by_cases k4 : y.1 = 4
      · by_cases o4 : op = 4
        · simp [k4, o4]
          rw [← o4]
          exact e2
        · simp [k4, o4]
      · by_cases k1 : y.1 = 1
        · simp [k1]
          exact e1
        · simp [k4, k1]
          exact e2
    · have e1 := ih (if y.2.1 < l then y.2.1 else l) (if m < y.2.1 then y.2.1 else m) (c + 1) (by omega) (by omega)
      have e2 := ih l m c h0 (by omega)
      by_cases k4 : y.1 = 4
      · by_cases o4 : op = 4
        · simp [k4, o4]
          rw [← o4]
          exact e2
        · simp [k4, o4]
      · by_cases k1 : y.1 = 1
        · simp [k1, hc]
          exact e1
        · simp [k4, k1]
          exact e2
theorem igathered_ok (op : Int) : igathered op xs = some ((gatL op xs 0 0 0, ()), ()) := by
  rw [igathered_eq]
  exact igathered_loop hl hv xs [] 0 0 0 rfl (by decide) (by decide)
/-! ### The reference's one loop -/
theorem fold_tog {op : Int} (ho : op = 6 ∨ op = 7) {p q c k n : Int} {u t : ByteArray} : ∀ (ys pre : List dValue) (all one : Bool), xs = pre ++ ys → sl6Fold_p6 op xs c all one (pre.length : Int) p q u k n t = some ((tog (decide (op = 6)) ys all one, ()), ())
  | [], pre, all, one, he => by
    rw [sl6Fold_p6_eq, ifF (nlt_at he)]
    rcases ho with rfl | rfl <;> simp [sl2Flag_ok, tog]
  | y :: ys, pre, all, one, he => by
    have hy := hv y (by rw [he]; simp)
    have ih := fun all one => fold_tog ho (p := p) (q := q) (c := c) (k := k) (n := n) (u := u) (t := t) ys _ all one (next_at he)
    rw [sl6Fold_p6_eq, ifT (lt_at he), ix_at he, sl6Bool_ok hy, Option.bind_some, wrap_at he (by omega)]
    simp only [ih]
    rw [tog_cons]
    rcases ho with rfl | rfl
    · cases it : isTru y
      · have := nonV_bad y
        simp [this]
      · cases all <;> cases one <;> simp [v0]
    · cases it : isTru y
      · have := nonV_bad y
        simp [this]
      · cases all <;> cases one <;> simp [v0]
theorem fold_sum {p q : Int} {u : ByteArray} : ∀ (ys pre : List dValue) (s : dValue) (c : Int), xs = pre ++ ys → okVal s = true → 0 ≤ c → c ≤ pre.length → sl6Fold_p6 1 xs c true false (pre.length : Int) p q u s.1 s.2.1 s.2.2.1 = some ((sumL ys s, ()), ())
  | [], pre, s, c, he, hs, c0, c1 => by
    rw [sl6Fold_p6_eq, ifF (nlt_at he)]
    rfl
  | y :: ys, pre, s, c, he, hs, c0, c1 => by
    have hlt := lt_at he
    have hy := hv y (by rw [he]; simp)
    rw [sl6Fold_p6_eq, ifT hlt, ix_at he, wrap_at he (by omega), wr (n := c + 1) (by omega) (by omega)]
    have hsy : sAdd (s.1, s.2.1, s.2.2.1, ()) y = some ((addV s y, ()), ()) := sAdd_ok (okVal_big hs) (okVal_big hy)
    have e2 := fold_sum (p := p) (q := q) (u := u) ys _ s c (next_at he) hs c0 (by rw [List.length_append, List.length_singleton]; omega)
    have e1 := fold_sum (p := p) (q := q) (u := u) ys _ (addV s y) (c + 1) (next_at he) (okAdd _ _) (by omega) (by rw [List.length_append, List.length_singleton]; omega)
    simp only [hsy, Option.bind_some, e1, e2]
    rw [sumL_cons]
    by_cases k4 : y.1 = 4
    · simp [k4]
    · by_cases k1 : y.1 = 1
      · by_cases ka : (addV s y).1 = 4 <;> simp [k1, ka]
      · simp [k4, k1]
theorem okVal_vN {v : dValue} (h : okVal v = true) (k : v.1 = 1) : v = vN v.2.1 := by
  unfold okVal at h
  rw [if_neg (by omega)] at h
  simp only [Bool.and_eq_true, decide_eq_true_eq] at h
  obtain ⟨a, b, c, ⟨⟩⟩ := v
  simp only at h k
  rw [k, h.1]
  rfl
set_option maxHeartbeats 2000000 in
theorem fold_gat {op : Int} (ho : op = 2 ∨ op = 3 ∨ op = 4) {p q : Int} {u : ByteArray} : ∀ (ys pre : List dValue) (l m c n : Int), xs = pre ++ ys → 0 ≤ c → c ≤ pre.length → c ≤ 1000000000 → (op = 2 → n = l) → (op = 3 → n = m) → sl6Fold_p6 op xs c true false (pre.length : Int) p q u 1 n eS = some ((gatL op ys l m c, ()), ())
  | [], pre, l, m, c, n, he, h0, h1, h9, n2, n3 => by
    rw [sl6Fold_p6_eq, ifF (nlt_at he)]
    unfold gatL
    rcases ho with rfl | rfl | rfl
    · rw [n2 rfl]
      rfl
    · rw [n3 rfl]
      rfl
    · have : bnd c = vN c := by
        unfold bnd
        rw [if_pos (inB_iff.2 (by omega))]
      simp [sl2Int_ok, this]
  | y :: ys, pre, l, m, c, n, he, h0, h1, h9, n2, n3 => by
    have hlt := lt_at he
    have hy := hv y (by rw [he]; simp)
    have hp : ((pre ++ [y]).length : Int) = pre.length + 1 := by simp
    have ih := fun l m c n h0 h1 h9 n2 n3 => fold_gat ho (p := p) (q := q) (u := u) ys _ l m c n (next_at he) h0 h1 h9 n2 n3
    rw [sl6Fold_p6_eq, ifT hlt, ix_at he, wrap_at he (by omega), wr (n := c + 1) (by omega) (by omega)]
    generalize ((pre ++ [y]).length : Int) = w at ih hp ⊢
    rw [gatL_cons]
    simp only [beq_iff_eq, bne_iff_ne, ne_eq]
    by_cases k4 : y.1 = 4
    · rcases ho with rfl | rfl | rfl
      · simp [k4]
      · simp [k4]
      · simp [k4]
        exact ih l m c n h0 (by omega) h9 (by simp) (by simp)
    · by_cases k1 : y.1 = 1
      · have hyv := okVal_vN hl hv hy k1
        have hyS : y.2.2.1 = eS := by rw [hyv]; rfl
        simp only [k1, hyS, not_true, if_false, if_true]
        by_cases hc : c = 0
        · subst hc
          rcases ho with rfl | rfl | rfl
          · simp
            exact ih y.2.1 y.2.1 1 y.2.1 (by decide) (by omega) (by decide) (fun _ => rfl) (by simp)
          · simp
            exact ih y.2.1 y.2.1 1 y.2.1 (by decide) (by omega) (by decide) (by simp) (fun _ => rfl)
          · simp
            exact ih y.2.1 y.2.1 1 y.2.1 (by decide) (by omega) (by decide) (by simp) (by simp)
        · have hc1 : ¬ c + 1 = 1 := by omega
          rcases ho with rfl | rfl | rfl
          · have := n2 rfl
            subst this
            by_cases hlt2 : y.2.1 < n
            · simp [hc, hc1, hlt2]
              exact ih _ _ (c + 1) y.2.1 (by omega) (by omega) (by omega) (fun _ => rfl) (by simp)
            · simp [hc, hc1, hlt2]
              exact ih _ _ (c + 1) n (by omega) (by omega) (by omega) (fun _ => rfl) (by simp)
          · have := n3 rfl
            subst this
            by_cases hlt2 : n < y.2.1
            · simp [hc, hc1, hlt2]
              exact ih _ _ (c + 1) y.2.1 (by omega) (by omega) (by omega) (by simp) (fun _ => rfl)
            · simp [hc, hc1, hlt2]
              exact ih _ _ (c + 1) n (by omega) (by omega) (by omega) (by simp) (fun _ => rfl)
          · simp [hc, hc1]
            exact ih _ _ (c + 1) n (by omega) (by omega) (by omega) (by simp) (by simp)
      · rcases ho with rfl | rfl | rfl <;> simp [k4, k1]
        · exact ih l m c n h0 (by omega) h9 n2 (by simp)
        · exact ih l m c n h0 (by omega) h9 (by simp) n3
        · exact ih l m c n h0 (by omega) h9 (by simp) (by simp)
/-- What a function of many values says. -/
def foldV (op : Int) (xs : List dValue) : dValue := if op = 6 ∨ op = 7 then tog (decide (op = 6)) xs true false else if op = 1 then sumL xs (vN 0) else gatL op xs 0 0 0
theorem sl6Fold_ok {op : Int} (ho : op = 1 ∨ op = 2 ∨ op = 3 ∨ op = 4 ∨ op = 6 ∨ op = 7) : sl6Fold op xs = some ((foldV op xs, ()), ()) := by
  rw [sl6Fold_eq]
  unfold foldV
  by_cases h6 : op = 6 ∨ op = 7
  · rw [if_pos h6]
    exact fold_tog hl hv h6 xs [] true false rfl
  · rw [if_neg h6]
    by_cases h1 : op = 1
    · subst h1
      exact fold_sum hl hv xs [] (vN 0) 0 rfl (okN (by decide) (by decide)) (by decide) (by decide)
    · rw [if_neg h1]
      exact fold_gat hl hv (by omega) xs [] 0 0 0 0 rfl (by decide) (by decide) (by decide) (fun _ => rfl) (fun _ => rfl)
end
theorem tog_ok {a : Bool} : ∀ {l : List dValue} {p q : Bool}, okVal (tog a l p q) = true
  | [], p, q => okB _
  | v :: l, p, q => by
    unfold tog
    split
    · exact tog_ok
    · exact okNon _
theorem sumL_ok : ∀ {l : List dValue} {s : dValue}, (∀ v ∈ l, okVal v = true) → okVal s = true → okVal (sumL l s) = true
  | [], s, _, h => h
  | v :: l, s, hv, h => by
    unfold sumL
    split
    · exact hv v (List.mem_cons_self ..)
    · split
      · split
        · exact okAdd _ _
        · exact sumL_ok (fun w hw => hv w (List.mem_cons_of_mem _ hw)) (okAdd _ _)
      · exact sumL_ok (fun w hw => hv w (List.mem_cons_of_mem _ hw)) h
theorem gatL_ok {op : Int} : ∀ {t : List dValue} {l m c : Int}, (∀ v ∈ t, okVal v = true) → (-1000000000000000 ≤ l ∧ l ≤ 1000000000000000) → (-1000000000000000 ≤ m ∧ m ≤ 1000000000000000) → (0 ≤ c ∧ c + t.length ≤ 1000000000000000) → okVal (gatL op t l m c) = true
  | [], l, m, c, hv, hl, hm, hc => by
    unfold gatL
    simp only [List.length_nil] at hc
    split
    · exact okN hl.1 hl.2
    · split
      · exact okN hm.1 hm.2
      · exact okN (by omega) (by omega)
  | v :: t, l, m, c, hv, hl, hm, hc => by
    have hvv := hv v (List.mem_cons_self ..)
    have hvt := fun w hw => hv w (List.mem_cons_of_mem _ hw)
    simp only [List.length_cons] at hc
    unfold gatL
    split
    · exact hvv
    · split
      · have := okVal_1 hvv ‹_›
        split
        · exact gatL_ok hvt this this (by omega)
        · refine gatL_ok hvt ?_ ?_ (by omega)
          · split <;> omega
          · split <;> omega
      · exact gatL_ok hvt hl hm (by omega)
theorem foldV_ok {op : Int} {xs : List dValue} (hv : ∀ v ∈ xs, okVal v = true) (hl : xs.length ≤ 100000000) : okVal (foldV op xs) = true := by
  unfold foldV
  split
  · exact tog_ok
  · split
    · exact sumL_ok hv (okN (by decide) (by decide))
    · exact gatL_ok hv (by decide) (by decide) (by omega)
end Go.Proofs.YtiligfmembmapaaGreatDoor.Abs
/- What a formula says: both sides. -/
set_option linter.unusedVariables false
set_option linter.unusedSimpArgs false
set_option linter.unusedSectionVars false
namespace Go.Proofs.YtiligfmembmapaaGreatDoor.Abs
open Go

def inA (a : dArea) (r : dRef) : Bool := inB r.1 a.1.1 a.2.1.1 && inB r.2.1 a.1.2.1 a.2.1.2.1
def areaOf (x : dFNode) : dArea := if x.1 = 2 then (x.2.2.2.1.1, x.2.2.2.1.1, ()) else (x.2.2.2.1.1, x.2.2.2.2.1.1, ())
theorem sl1Within_ok (r : dRef) (a : dArea) : sl1Within r a = some ((inA a r, ()), ()) := by
  rw [sl1Within_eq]
  unfold inA
  simp only [sl1In_ok, Option.bind_some]
  cases inB r.1 a.1.1 a.2.1.1 <;> simp
theorem iArea_has_ok (a : dArea) (r : dRef) : iArea_has a r = some ((inA a r, ()), ()) := by
  rw [iArea_has_eq]
  unfold inA
  simp only [iwithin_ok, Option.bind_some]
  cases inB r.1 a.1.1 a.2.1.1 <;> simp
theorem iFNode_area_ok (x : dFNode) : iFNode_area x = some ((areaOf x, ()), ()) := by
  rw [iFNode_area_eq]
  unfold areaOf
  by_cases h : x.1 = 2 <;> simp [h]
/-- The values of an area. -/
def valsIn (l : List dCellValue) (a : dArea) : List dValue := (l.filter fun c => inA a c.1).map fun c => c.2.1
def argsV (ev : Int → dValue) (f : List dFNode) (l : List dCellValue) : List Int → List dValue
  | [] => []
  | k :: ks => (if (nodeAt f k).1 = 3 then valsIn l (areaOf (nodeAt f k)) else [ev k]) ++ argsV ev f l ks
def callV (op : Int) (n : Int) (kid : Nat → dValue) (args : List dValue) : dValue :=
  if op = 5 then (if isTru (kid 0) = true then (if (kid 0).2.1 ≠ 0 then kid 1 else if n > 2 then kid 2 else vB false) else nonV (kid 0))
  else if op = 8 then (if isTru (kid 0) = true then vB (!decide ((kid 0).2.1 ≠ 0)) else nonV (kid 0))
  else if op = 9 then (if isNum (kid 0) = true then vN ((kid 0).2.1.natAbs : Int) else nonV (kid 0))
  else if op = 10 then (if isTx (kid 0) = true then vN ((txt (kid 0)).size : Int) else nonV (kid 0))
  else foldV op args
def binV (op : Int) (a b : dValue) : dValue := if op = 1 then addV a b else if op = 2 then subV a b else if op = 3 then mulV a b else if op = 4 then divV a b else if op = 5 then joinV a b else heldV op a b
def evF : Nat → List dFNode → List dCellValue → Int → dValue
  | 0, _, _, _ => v0
  | n + 1, f, l, k =>
    let x := nodeAt f k
    let kid := fun i : Nat => evF n f l (x.2.2.2.2.2.1.getD i 0)
    if x.1 = 1 then x.2.2.1 else if x.1 = 2 then lookV l x.2.2.2.1.1 else if x.1 = 3 then vE 2 else if x.1 = 4 then negV (kid 0)
    else if x.1 = 6 then callV x.2.1 (kl x) kid (argsV (evF n f l) f l x.2.2.2.2.2.1) else binV x.2.1 (kid 0) (kid 1)
theorem mul32' {n : Nat} (h : n ≤ 4398046511104) : n * 32 ≤ 140737488355328 := mul32 h
section
variable {f : List dFNode} {l : List dCellValue} (hl : l.length ≤ 1000) (hf : f.length ≤ 10000000)
include hl hf
theorem sl6Args_area {k : Int} {i : Int} {a : dArea} : ∀ (ys pre : List dCellValue) (acc : List dValue), l = pre ++ ys → acc.length + ys.length ≤ 1000000 → sl6Args_p10 f k l i (pre.length : Int) acc a.1 a.2.1 = sl6Args_p3 f k l (IntKind.i64.wrap (i + 1)) (acc ++ valsIn ys a)
  | [], pre, acc, he, hb => by
    rw [sl6Args_p10_eq, ifF (nlt_at he)]
    simp [valsIn]
  | y :: ys, pre, acc, he, hb => by
    have hb' : acc.length + (ys.length + 1) ≤ 1000000 := by simpa using hb
    rw [sl6Args_p10_eq, ifT (lt_at he), ix_at he, sl1Within_ok, Option.bind_some, wrap_at he (by omega)]
    show (if inA a y.1 = true then _ else _) = _
    cases ha : inA a y.1
    · rw [if_neg (by decide), sl6Args_area ys _ acc (next_at he) (by omega)]
      simp [valsIn, ha]
    · rw [if_pos rfl, ix_at he, app_ok (mul32 (by simp only [List.length_singleton]; omega)), sl6Args_area ys _ _ (next_at he) (by simp only [List.length_append, List.length_singleton]; omega)]
      simp [valsIn, ha]
theorem ivaluesOf_area {k : Int} {x : dFNode} (hk0 : 0 ≤ k) (hk : f[k.toNat]? = some x) {ks : List Int} {i : Int} : ∀ (ys pre : List dCellValue) (acc : List dValue), l = pre ++ ys → acc.length + ys.length ≤ 1000000 → ivaluesOf_p8 f l k ks (ks.length : Int) i l (l.length : Int) (pre.length : Int) acc = ivaluesOf_p3 f l ks (ks.length : Int) (IntKind.i64.wrap (i + 1)) (acc ++ valsIn ys (areaOf x))
  | [], pre, acc, he, hb => by
    rw [ivaluesOf_p8_eq, ifF (nlt_at he)]
    simp [valsIn]
  | y :: ys, pre, acc, he, hb => by
    have hb' : acc.length + (ys.length + 1) ≤ 1000000 := by simpa using hb
    rw [ivaluesOf_p8_eq, ifT (lt_at he), ix_at he, ix_of hk0 hk, iFNode_area_ok, Option.bind_some, iArea_has_ok, Option.bind_some, wrap_at he (by omega)]
    show (if inA (areaOf x) y.1 = true then _ else _) = _
    cases ha : inA (areaOf x) y.1
    · rw [if_neg (by decide), ivaluesOf_area hk0 hk ys _ acc (next_at he) (by omega)]
      simp [valsIn, ha]
    · rw [if_pos rfl, app_ok (mul32 (by simp only [List.length_singleton]; omega)), ivaluesOf_area hk0 hk ys _ _ (next_at he) (by simp only [List.length_append, List.length_singleton]; omega)]
      simp [valsIn, ha]
omit hf in
theorem valsIn_len (a : dArea) : (valsIn l a).length ≤ 1000 := by
  unfold valsIn
  rw [List.length_map]
  exact Nat.le_trans (List.length_filter_le _ _) hl
theorem sl6Args_loop {k : Int} {x : dFNode} {ev : Int → dValue} (hk0 : 0 ≤ k) (hk : f[k.toNat]? = some x) (hkl : x.2.2.2.2.2.1.length ≤ 100) (hev : ∀ j ∈ x.2.2.2.2.2.1, 0 ≤ j ∧ j < f.length ∧ sl6Eval f j l = some ((ev j, ()), ())) :
    ∀ (ys pre : List Int) (acc : List dValue), x.2.2.2.2.2.1 = pre ++ ys → acc.length ≤ pre.length * 1000 → sl6Args_p3 f k l (pre.length : Int) acc = some ((acc ++ argsV ev f l ys, ()), ())
  | [], pre, acc, he, hb => by
    rw [sl6Args_p3_eq, ix_of hk0 hk, ifF (nlt_at he)]
    simp [argsV]
  | y :: ys, pre, acc, he, hb => by
    have hlen : pre.length < 100 := by
      rw [he, List.length_append, List.length_cons] at hkl
      omega
    obtain ⟨y0, y1, y2⟩ := hev y (by rw [he]; simp)
    obtain ⟨z, hz⟩ : ∃ z, f[y.toNat]? = some z := ⟨f[y.toNat]'(by omega), List.getElem?_eq_getElem _⟩
    have hnz : nodeAt f y = z := by
      unfold nodeAt
      rw [List.getD_eq_getElem?_getD, hz]
      rfl
    rw [sl6Args_p3_eq, ix_of hk0 hk, ifT (lt_at he), ix_of hk0 hk, ix_at he, ix_of y0 hz]
    unfold argsV
    rw [hnz]
    by_cases h3 : z.1 = 3
    · rw [if_neg (by simp [h3]), if_pos h3, show sl6Args_p10 f k l (pre.length : Int) 0 acc z.2.2.2.1.1 z.2.2.2.2.1.1 = sl6Args_p10 f k l (pre.length : Int) (([] : List dCellValue).length : Int) acc (z.2.2.2.1.1, z.2.2.2.2.1.1, ()).1 (z.2.2.2.1.1, z.2.2.2.2.1.1, ()).2.1 from rfl, sl6Args_area hl hf l [] acc rfl (by omega), wrap_at he (by omega), sl6Args_loop hk0 hk hkl hev ys _ _ (next_at he)]
      · have ha : areaOf z = (z.2.2.2.1.1, z.2.2.2.2.1.1, ()) := by
          unfold areaOf
          rw [if_neg (by omega)]
        rw [ha]
        simp
      · have := valsIn_len hl (z.2.2.2.1.1, z.2.2.2.2.1.1, ())
        simp only [List.length_append, List.length_singleton]
        omega
    · rw [if_pos (by simp [h3]), if_neg h3, ix_of hk0 hk, ix_at he, y2, Option.bind_some, app_ok (mul32 (by simp only [List.length_singleton]; omega)), wrap_at he (by omega), sl6Args_loop hk0 hk hkl hev ys _ _ (next_at he)]
      · simp
      · simp only [List.length_append, List.length_singleton]
        omega
theorem ivaluesOf_loop {x : dFNode} {ev : Int → dValue} (hkl : x.2.2.2.2.2.1.length ≤ 100) (hev : ∀ j ∈ x.2.2.2.2.2.1, 0 ≤ j ∧ j < f.length ∧ isays f j l = some ((ev j, ()), ())) :
    ∀ (ys pre : List Int) (acc : List dValue), x.2.2.2.2.2.1 = pre ++ ys → acc.length ≤ pre.length * 1000 → ivaluesOf_p3 f l x.2.2.2.2.2.1 (x.2.2.2.2.2.1.length : Int) (pre.length : Int) acc = some ((acc ++ argsV ev f l ys, ()), ())
  | [], pre, acc, he, hb => by
    rw [ivaluesOf_p3_eq, ifF (nlt_at he)]
    simp [argsV]
  | y :: ys, pre, acc, he, hb => by
    have hlen : pre.length < 100 := by
      rw [he, List.length_append, List.length_cons] at hkl
      omega
    obtain ⟨y0, y1, y2⟩ := hev y (by rw [he]; simp)
    obtain ⟨z, hz⟩ : ∃ z, f[y.toNat]? = some z := ⟨f[y.toNat]'(by omega), List.getElem?_eq_getElem _⟩
    have hnz : nodeAt f y = z := by
      unfold nodeAt
      rw [List.getD_eq_getElem?_getD, hz]
      rfl
    rw [ivaluesOf_p3_eq, ifT (lt_at he), ix_at he, ix_of y0 hz]
    unfold argsV
    rw [hnz]
    by_cases h3 : z.1 = 3
    · rw [if_neg (by simp [h3]), if_pos h3, show ivaluesOf_p8 f l y x.2.2.2.2.2.1 (x.2.2.2.2.2.1.length : Int) (pre.length : Int) l (l.length : Int) 0 acc = ivaluesOf_p8 f l y x.2.2.2.2.2.1 (x.2.2.2.2.2.1.length : Int) (pre.length : Int) l (l.length : Int) (([] : List dCellValue).length : Int) acc from rfl, ivaluesOf_area hl hf y0 hz l [] acc rfl (by omega), wrap_at he (by omega), ivaluesOf_loop hkl hev ys _ _ (next_at he)]
      · simp
      · have := valsIn_len hl (areaOf z)
        simp only [List.length_append, List.length_singleton]
        omega
    · rw [if_pos (by simp [h3]), if_neg h3, y2, Option.bind_some, app_ok (mul32 (by simp only [List.length_singleton]; omega)), wrap_at he (by omega), ivaluesOf_loop hkl hev ys _ _ (next_at he)]
      · simp
      · simp only [List.length_append, List.length_singleton]
        omega
omit hf in
theorem argsV_len {ev : Int → dValue} : ∀ ks : List Int, (argsV ev f l ks).length ≤ ks.length * 1001
  | [] => by simp [argsV]
  | k :: ks => by
    have := argsV_len (ev := ev) ks
    have h := valsIn_len hl (areaOf (nodeAt f k))
    unfold argsV
    rw [List.length_append, List.length_cons]
    split
    · omega
    · rw [List.length_singleton]
      omega
omit hl hf in
theorem argsV_ok {ev : Int → dValue} (hv : ∀ c ∈ l, okVal c.2.1 = true) : ∀ ks : List Int, (∀ j ∈ ks, okVal (ev j) = true) → ∀ v ∈ argsV ev f l ks, okVal v = true
  | [], _, v, h => by cases h
  | k :: ks, he, v, h => by
    unfold argsV at h
    rcases List.mem_append.1 h with h | h
    · split at h
      · unfold valsIn at h
        obtain ⟨c, hc, rfl⟩ := List.mem_map.1 h
        exact hv c (List.mem_filter.1 hc).1
      · rw [List.mem_singleton.1 h]
        exact he k (List.mem_cons_self ..)
    · exact argsV_ok hv ks (fun j hj => he j (List.mem_cons_of_mem _ hj)) v h
/-- A node's kids, by its kind. -/
theorem okNode_cases {x : dFNode} (h : okNode x = true) : (x.1 = 1 ∧ okVal x.2.2.1 = true) ∨ x.1 = 2 ∨ x.1 = 3 ∨ (x.1 = 4 ∧ kl x = 1) ∨ (x.1 = 5 ∧ kl x = 2 ∧ inB x.2.1 1 11 = true) ∨ (x.1 = 6 ∧ okArgs x.2.1 (kl x) = true) := by
  unfold okNode at h
  by_cases h1 : x.1 = 1
  · rw [if_pos h1] at h
    simp only [Bool.and_eq_true] at h
    exact .inl ⟨h1, h.1.1.2⟩
  rw [if_neg h1] at h
  by_cases h2 : x.1 = 2
  · exact .inr (.inl h2)
  rw [if_neg h2] at h
  by_cases h3 : x.1 = 3
  · exact .inr (.inr (.inl h3))
  rw [if_neg h3] at h
  by_cases h4 : x.1 = 4
  · rw [if_pos h4] at h
    simp only [Bool.and_eq_true, decide_eq_true_eq] at h
    exact .inr (.inr (.inr (.inl ⟨h4, h.2⟩)))
  rw [if_neg h4] at h
  by_cases h5 : x.1 = 5
  · rw [if_pos h5] at h
    simp only [Bool.and_eq_true, decide_eq_true_eq] at h
    exact .inr (.inr (.inr (.inr (.inl ⟨h5, h.2, h.1.1.1.1⟩))))
  rw [if_neg h5] at h
  by_cases h6 : x.1 = 6
  · rw [if_pos h6] at h
    simp only [Bool.and_eq_true, decide_eq_true_eq] at h
    exact .inr (.inr (.inr (.inr (.inr ⟨h6, h.1.1.1⟩))))
  rw [if_neg h6] at h
  cases h
theorem okArgs_cases {op k : Int} (h : okArgs op k = true) : (op = 5 ∧ (k = 2 ∨ k = 3)) ∨ ((op = 1 ∨ op = 2 ∨ op = 3 ∨ op = 4 ∨ op = 6 ∨ op = 7) ∧ 1 ≤ k ∧ k ≤ 10) ∨ ((op = 8 ∨ op = 9 ∨ op = 10) ∧ k = 1) := by
  unfold okArgs at h
  by_cases h5 : op = 5
  · rw [if_pos h5] at h
    simp only [Bool.or_eq_true, decide_eq_true_eq] at h
    exact .inl ⟨h5, h⟩
  · rw [if_neg h5] at h
    split at h
    · rename_i h7
      have := inB_iff.1 h7
      have := inB_iff.1 h
      exact .inr (.inl ⟨by omega, by omega⟩)
    · split at h
      · rename_i h8
        have := inB_iff.1 h8
        simp only [decide_eq_true_eq] at h
        exact .inr (.inr ⟨by omega, h⟩)
      · cases h
omit hl hf in
theorem okNum_abs {v : dValue} (h : isNum v = true) : (if v.2.1 < IntKind.i64.wrap (0 - v.2.1) then IntKind.i64.wrap (0 - v.2.1) else v.2.1) = (v.2.1.natAbs : Int) := by
  have := isNum_range h
  rw [wr (by omega) (by omega)]
  split <;> omega
omit hl hf in
theorem bnd_in {n : Int} (h0 : -1000000000000000 ≤ n) (h1 : n ≤ 1000000000000000) : bnd n = vN n := by
  unfold bnd
  rw [if_pos (inB_iff.2 ⟨h0, h1⟩)]
theorem eval_ok (A : ∀ (i : Nat) (x : dFNode), f[i]? = some x → stands f i x) (hv : ∀ c ∈ l, okVal c.2.1 = true) : ∀ (n : Nat) (k : Int), 0 ≤ k → k < n → k < f.length →
    sl6Eval f k l = some ((evF n f l k, ()), ()) ∧ isays f k l = some ((evF n f l k, ()), ()) ∧ okVal (evF n f l k) = true
  | 0, k, h0, h1, _ => by omega
  | n + 1, k, h0, h1, h2 => by
    obtain ⟨x, hx⟩ : ∃ y, f[k.toNat]? = some y := ⟨f[k.toNat]'(by omega), List.getElem?_eq_getElem _⟩
    have hst := A _ _ hx
    have hnx : nodeAt f k = x := by
      unfold nodeAt
      rw [List.getD_eq_getElem?_getD, hx]
      rfl
    have hk : ∀ j ∈ x.2.2.2.2.2.1, sl6Eval f j l = some ((evF n f l j, ()), ()) ∧ isays f j l = some ((evF n f l j, ()), ()) ∧ okVal (evF n f l j) = true := fun j hj => by
      have := hst.2 j hj
      exact eval_ok A hv n j this.1 (by omega) (by omega)
    rw [sl6Eval_eq, isays_eq, ix_of h0 hx, ix_of h0 hx]
    unfold evF
    simp only [hnx]
    rcases okNode_cases hl hf hst.1 with ⟨k1, ho⟩ | k2 | k3 | ⟨k4, hkl⟩ | ⟨k5, hkl, hop⟩ | ⟨k6, hop⟩
    · simp [k1, ho]
    · simp [k2, sl6At_ok (xs := l) (by omega), ilookup_ok (xs := l) (by omega), lookV_ok hv]
    · simp [k3, sl2Error_ok, ifault_ok, okErr (n := 2) (by decide) (by decide)]
    · obtain ⟨a, ha⟩ : ∃ a, x.2.2.2.2.2.1 = [a] := List.length_eq_one_iff.1 (by unfold kl at hkl; omega)
      obtain ⟨e1, e2, e3⟩ := hk a (by rw [ha]; simp)
      have hi : ∀ (d : Int) (g : Int → Option ((dValue × Unit) × Unit)), ix [a] 0 d g = g a := fun d g => ix_of (by decide) rfl
      simp [k4, ha, hi, e1, e2, sNegated_ok (okVal_big e3), iNegated_ok (okVal_big e3), okNeg]
    · obtain ⟨a, b, ha⟩ : ∃ a b, x.2.2.2.2.2.1 = [a, b] := by
        cases hq : x.2.2.2.2.2.1 with
        | nil => unfold kl at hkl; rw [hq] at hkl; simp at hkl
        | cons a t => cases t with
          | nil => unfold kl at hkl; rw [hq] at hkl; simp at hkl
          | cons b t => cases t with
            | nil => exact ⟨a, b, rfl⟩
            | cons c t => unfold kl at hkl; rw [hq] at hkl; simp at hkl; omega
      obtain ⟨e1, e2, e3⟩ := hk a (by rw [ha]; simp)
      obtain ⟨g1, g2, g3⟩ := hk b (by rw [ha]; simp)
      have hi : ∀ (d : Int) (g : Int → Option ((dValue × Unit) × Unit)), ix [a, b] 0 d g = g a := fun d g => ix_of (by decide) rfl
      have hj : ∀ (d : Int) (g : Int → Option ((dValue × Unit) × Unit)), ix [a, b] 1 d g = g b := fun d g => ix_of (by decide) rfl
      have b1 := okVal_big e3
      have b2 := okVal_big g3
      simp only [k5, ha, hi, hj, e1, e2, g1, g2, Option.bind_some, sAdd_ok b1 b2, iAdd_ok b1 b2, sLess_ok b1 b2, iLess_ok b1 b2, sTimes_ok b1 b2, iTimes_ok b1 b2, sOver_ok b1 b2, iOver_ok b1 b2, sJoined_ok b1 b2, iJoined_ok b1 b2, sHeld_ok b1 b2, iHeld_ok b1 b2, List.getD_cons_zero, List.getD_cons_succ]
      unfold binV
      by_cases o1 : x.2.1 = 1
      · simp [o1, okAdd]
      by_cases o2 : x.2.1 = 2
      · simp [o2, okSub]
      by_cases o3 : x.2.1 = 3
      · simp [o3, okMul]
      by_cases o4 : x.2.1 = 4
      · simp [o4, okDiv]
      by_cases o5 : x.2.1 = 5
      · simp [o5, okJoin]
      simp [o1, o2, o3, o4, o5, okHeld]
    · have hcs := okArgs_cases hl hf hop
      have hn10 : x.2.2.2.2.2.1.length ≤ 10 := by unfold kl at hcs; omega
      have hne : 1 ≤ x.2.2.2.2.2.1.length := by unfold kl at hcs; omega
      obtain ⟨a, t, hat⟩ : ∃ a t, x.2.2.2.2.2.1 = a :: t := by
        cases hq : x.2.2.2.2.2.1 with
        | nil => rw [hq] at hne; simp at hne
        | cons a t => exact ⟨a, t, rfl⟩
      obtain ⟨e1, e2, e3⟩ := hk a (by rw [hat]; simp)
      have hi : ∀ (d : Int) (g : Int → Option ((dValue × Unit) × Unit)), ix x.2.2.2.2.2.1 0 d g = g a := fun d g => ix_of (by decide) (by rw [hat]; rfl)
      have hg0 : x.2.2.2.2.2.1.getD 0 0 = a := by rw [hat]; rfl
      rw [sl6Call_eq, icalled_eq, ix_of h0 hx]
      have b1 := okVal_big e3
      unfold callV
      rcases hcs with ⟨o5, hk2⟩ | ⟨oo, _⟩ | ⟨oo, _⟩
      · -- a choice
        have hm : ∀ j : Nat, j < x.2.2.2.2.2.1.length → ∃ c, x.2.2.2.2.2.1[j]? = some c ∧ x.2.2.2.2.2.1.getD j 0 = c ∧ sl6Eval f c l = some ((evF n f l c, ()), ()) ∧ isays f c l = some ((evF n f l c, ()), ()) ∧ okVal (evF n f l c) = true := fun j hj => by
          refine ⟨x.2.2.2.2.2.1[j], List.getElem?_eq_getElem _, by simp [List.getD_eq_getElem?_getD, hj], hk _ (List.getElem_mem _)⟩
        rw [ichosen_eq]
        simp only [k6, o5, hi, hg0, e1, e2, Option.bind_some, sl6Bool_ok e3, iasTruth_ok b1, inone_ok b1, itruth_ok, sl2Flag_ok, beq_self_eq_true, if_true]
        unfold kl at hk2
        cases ht : isTru (evF n f l a) with
        | false =>
          have := nonV_bad (evF n f l a)
          simp [this, okNon]
        | true =>
          obtain ⟨c, c1, c2, c3, c4, c5⟩ := hm 1 (by omega)
          have hi1 : ∀ (d : Int) (g : Int → Option ((dValue × Unit) × Unit)), ix x.2.2.2.2.2.1 1 d g = g c := fun d g => ix_of (by decide) c1
          simp only [if_true, hi1, c2, c3, c4, Option.bind_some]
          by_cases hz : (evF n f l a).2.1 = 0
          · rcases hk2 with h22 | h33
            · have h22' : x.2.2.2.2.2.1.length = 2 := by omega
              simp [hz, v0, kl, h22', okB]
            · obtain ⟨d, d1, d2, d3, d4, d5⟩ := hm 2 (by omega)
              have hi2 : ∀ (z : Int) (g : Int → Option ((dValue × Unit) × Unit)), ix x.2.2.2.2.2.1 2 z g = g d := fun z g => ix_of (by decide) d1
              have h33' : x.2.2.2.2.2.1.length = 3 := by omega
              have d2' : x.2.2.2.2.2.1[2]?.getD 0 = d := by rw [← List.getD_eq_getElem?_getD]; exact d2
              have d6 : ∀ hh : 2 < x.2.2.2.2.2.1.length, x.2.2.2.2.2.1[2]'hh = d := fun hh => by
                rw [List.getElem?_eq_getElem hh] at d1
                exact Option.some.inj d1
              simp [hz, v0, kl, h33', hi2, d6, d3, d4, d5]
          · have c2' : x.2.2.2.2.2.1[1]?.getD 0 = c := by rw [← List.getD_eq_getElem?_getD]; exact c2
            simp [hz, v0, c5, c2']
      · -- of many values
        have h5 : x.2.1 ≠ 5 := by omega
        have h8 : x.2.1 ≠ 8 := by omega
        have h9 : x.2.1 ≠ 9 := by omega
        have h10 : x.2.1 ≠ 10 := by omega
        have ea := sl6Args_loop hl hf (ev := evF n f l) h0 hx (by omega) (fun j hj => ⟨(hst.2 j hj).1, by have := (hst.2 j hj).2.1; omega, (hk j hj).1⟩) x.2.2.2.2.2.1 [] [] rfl (by simp)
        have eb := ivaluesOf_loop hl hf (x := x) (ev := evF n f l) (by omega) (fun j hj => ⟨(hst.2 j hj).1, by have := (hst.2 j hj).2.1; omega, (hk j hj).2.1⟩) x.2.2.2.2.2.1 [] [] rfl (by simp)
        have hal := argsV_len hl (f := f) (ev := evF n f l) x.2.2.2.2.2.1
        have hav := argsV_ok (f := f) (ev := evF n f l) hv x.2.2.2.2.2.1 (fun j hj => (hk j hj).2.2)
        simp only [List.nil_append] at ea eb
        generalize argsV (evF n f l) f l x.2.2.2.2.2.1 = args at ea eb hal hav ⊢
        have ea' : sl6Args f k l = some ((args, ()), ()) := by rw [sl6Args_eq]; exact ea
        have eb' : ivaluesOf f x l = some ((args, ()), ()) := by rw [ivaluesOf_eq]; exact eb
        have hlen : args.length ≤ 100000000 := by omega
        simp only [ea', eb', Option.bind_some, sl6Fold_ok hlen hav oo, itogether_ok hlen hav, isummed_ok hlen hav, igathered_ok hlen hav]
        have hfo := foldV_ok (op := x.2.1) hav hlen
        unfold foldV at hfo ⊢
        rcases oo with o | o | o | o | o | o <;> simp [k6, o] <;> simpa [o] using hfo
      · -- of one value
        simp only [k6, hi, hg0, e1, e2, Option.bind_some]
        rw [isingle_eq]
        obtain ⟨t, e4, e5⟩ := iasText_ok b1
        simp only [sl6Bool_ok e3, sl2Word_ok b1, sl2Flag_ok, sl2Int_ok, iasTruth_ok b1, iasNumber_ok b1, e4, inone_ok b1, itruth_ok, inumber_ok, Option.bind_some, show ((0, 0, ({ data := #[] } : ByteArray), ()) : dValue) = v0 from rfl, sAdd_ok b1 (b := v0) (by decide)]
        rcases oo with o | o | o
        · simp only [o]
          cases ht : isTru (evF n f l a) with
          | false =>
            have := nonV_bad (evF n f l a)
            simp [this, okNon]
          | true => simp [v0, okB]
        · simp only [o]
          have h0n : isNum v0 = true := by decide
          cases ht : isNum (evF n f l a) with
          | false =>
            have := nonV_bad (evF n f l a)
            have ha : addV (evF n f l a) v0 = nonV (evF n f l a) := by
              unfold addV two
              rw [if_neg (by rw [ht]; decide)]
            simp [ha, this, okNon]
          | true =>
            have hr := isNum_range ht
            have ha : addV (evF n f l a) v0 = vN (evF n f l a).2.1 := by
              unfold addV two
              rw [if_pos ht, if_pos h0n]
              show bnd ((evF n f l a).2.1 + 0) = _
              rw [Int.add_zero, bnd_in hr.1 hr.2]
            have hN : okVal (vN (evF n f l a).2.1) = true := okN hr.1 hr.2
            have hneg : negV (vN (evF n f l a).2.1) = vN (-(evF n f l a).2.1) := by
              unfold negV subV two
              rw [if_pos h0n, if_pos (by unfold isNum; rw [hN]; rfl)]
              show bnd (0 - (evF n f l a).2.1) = _
              rw [bnd_in (by omega) (by omega)]
              congr 1
              omega
            have habs := okNum_abs ht
            have hok : okVal (vN ((evF n f l a).2.1.natAbs : Int)) = true := okN (by omega) (by omega)
            simp only [ha, habs, sNegated_ok (okVal_big hN), hneg, Option.bind_some]
            by_cases hlt : (evF n f l a).2.1 < 0
            · have : (-(evF n f l a).2.1) = ((evF n f l a).2.1.natAbs : Int) := by omega
              simp [vN, hlt, this] at hok ⊢
              exact hok
            · have : (evF n f l a).2.1 = ((evF n f l a).2.1.natAbs : Int) := by omega
              simp [vN, hlt] at hok ⊢
              exact ⟨this, hok⟩
        · simp only [o]
          cases ht : isTx (evF n f l a) with
          | false =>
            have := nonV_bad (evF n f l a)
            simp [this, okNon]
          | true =>
            have hz := txt_size e3
            have hb := bnd_in (n := ((txt (evF n f l a)).size : Int)) (by omega) (by omega)
            have hok : okVal (vN ((txt (evF n f l a)).size : Int)) = true := okN (by omega) (by omega)
            rw [e5 ht]
            simp [v0, hb, hok]
end
/-- What a formula says. -/
def evalF (f : List dFNode) (l : List dCellValue) : dValue := let v := evF f.length f l ((f.length : Int) - 1); if v.1 = 0 then vN 0 else v
def evalV (f : List dFNode) (l : List dCellValue) : dValue := if okF f = true then (if okVs l = true then evalF f l else vE 3) else vE 3
section
variable {f : List dFNode} {l : List dCellValue} (hl : l.length ≤ 10000000) (hvs : ∀ c ∈ l, c.2.1.2.2.1.size ≤ 9223372036854775807) (hf : f.length ≤ 10000000) (hs : ∀ x ∈ f, x.2.2.1.2.2.1.size ≤ 9223372036854775807) (hkl : ∀ x ∈ f, x.2.2.2.2.2.1.length ≤ 10000000)
include hl hvs hf hs hkl
theorem okVs_len (h : okVs l = true) : l.length ≤ 1000 := by
  unfold okVs at h
  simp only [Bool.and_eq_true, decide_eq_true_eq] at h
  omega
theorem evals_ok (h1 : okF f = true) (h2 : okVs l = true) : sl6Eval f ((f.length : Int) - 1) l = some ((evF f.length f l ((f.length : Int) - 1), ()), ()) ∧ isays f ((f.length : Int) - 1) l = some ((evF f.length f l ((f.length : Int) - 1), ()), ()) ∧ okVal (evF f.length f l ((f.length : Int) - 1)) = true := by
  have hb : inB (f.length : Int) 1 60 = true := by
    unfold okF at h1
    simp only [Bool.and_eq_true] at h1
    exact h1.1
  have := inB_iff.1 hb
  exact eval_ok (okVs_len hl hvs hf hs hkl h2) hf (okF_stands h1) (okVs_vals h2) f.length _ (by omega) (by omega) (by omega)
theorem sEval_ok : sEval f l = some ((evalV f l, ()), ()) := by
  rw [sEval_eq, sFormulaOk_ok hf hs hkl, Option.bind_some]
  unfold evalV
  cases h1 : okF f with
  | false => simp [sl2Error_ok]
  | true =>
    rw [sValuesOk_ok hl hvs, Option.bind_some]
    cases h2 : okVs l with
    | false => simp [sl2Error_ok]
    | true =>
      obtain ⟨e1, e2, e3⟩ := evals_ok hl hvs hf hs hkl h1 h2
      rw [wr1 (by omega) (by omega), e1]
      unfold evalF
      have hb : bnd 0 = vN 0 := by decide
      by_cases h0 : (evF f.length f l ((f.length : Int) - 1)).1 = 0 <;> simp [h0, sl2Int_ok, hb]
theorem ieval_ok (h1 : okF f = true) (h2 : okVs l = true) : ieval f l = some ((evalF f l, ()), ()) := by
  obtain ⟨e1, e2, e3⟩ := evals_ok hl hvs hf hs hkl h1 h2
  rw [ieval_eq, wr1 (by omega) (by omega), e2]
  unfold evalF
  by_cases h0 : (evF f.length f l ((f.length : Int) - 1)).1 = 0 <;> simp [h0, inumber_ok]
theorem iEval_ok : iEval f l = some ((evalV f l, ()), ()) := by
  rw [iEval_eq, iFormulaOk_ok hf hs hkl, Option.bind_some]
  unfold evalV
  cases h1 : okF f with
  | false => simp [ifault_ok]
  | true =>
    rw [iValuesOk_ok hl hvs, Option.bind_some]
    cases h2 : okVs l with
    | false => simp [ifault_ok]
    | true => simp [ieval_ok hl hvs hf hs hkl h1 h2]
end
end Go.Proofs.YtiligfmembmapaaGreatDoor.Abs
/- Plain laws: a formula hangs on the cells of its areas alone. -/
set_option linter.unusedVariables false
set_option linter.unusedSimpArgs false
set_option linter.unusedSectionVars false
namespace Go.Proofs.YtiligfmembmapaaGreatDoor.Abs
open Go

/-! ### The areas of a formula -/
def hasAr (x : dFNode) : Bool := decide (x.1 = 2) || decide (x.1 = 3)
def areasV (f : List dFNode) : List dArea := (f.filter hasAr).map areaOf
/-- The cells of some areas. -/
def fewV (ar : List dArea) (l : List dCellValue) : List dCellValue := l.filter fun c => ar.any fun a => inA a c.1
theorem inA_self (r : dRef) : inA (r, r, ()) r = true := by
  unfold inA
  rw [Bool.and_eq_true, inB_iff, inB_iff]
  exact ⟨⟨Int.le_refl _, Int.le_refl _⟩, Int.le_refl _, Int.le_refl _⟩
theorem look_few {ar : List dArea} {r : dRef} (h : ∃ a ∈ ar, inA a r = true) : ∀ l : List dCellValue, lookV (fewV ar l) r = lookV l r
  | [] => rfl
  | c :: l => by
    have ih := look_few h l
    unfold fewV at ih ⊢
    rw [List.filter_cons]
    by_cases hc : (ar.any fun a => inA a c.1) = true
    · rw [if_pos hc]
      unfold lookV
      rw [ih]
    · rw [if_neg hc, ih]
      have : c.1 ≠ r := by
        rintro rfl
        exact hc (List.any_eq_true.2 h)
      conv => rhs; unfold lookV
      rw [if_neg this]
theorem vals_few {ar : List dArea} {a : dArea} (h : a ∈ ar) (l : List dCellValue) : valsIn (fewV ar l) a = valsIn l a := by
  unfold valsIn fewV
  rw [List.filter_filter]
  congr 1
  refine List.filter_congr fun c _ => ?_
  cases hc : inA a c.1 with
  | false => rfl
  | true =>
    rw [Bool.true_and]
    exact List.any_eq_true.2 ⟨a, h, hc⟩
section
variable {f : List dFNode} {l : List dCellValue}
theorem node_mem {k : Int} (h0 : 0 ≤ k) (h1 : k < f.length) : nodeAt f k ∈ f := by
  unfold nodeAt
  rw [List.getD_eq_getElem?_getD, List.getElem?_eq_getElem (by omega)]
  exact List.getElem_mem _
theorem mem_areas {x : dFNode} (h : x ∈ f) (k : hasAr x = true) : areaOf x ∈ areasV f := List.mem_map_of_mem (List.mem_filter.2 ⟨h, k⟩)
theorem args_few {ev ev' : Int → dValue} : ∀ ks : List Int, (∀ k ∈ ks, 0 ≤ k ∧ k < f.length) → (∀ k ∈ ks, ev' k = ev k) → argsV ev' f (fewV (areasV f) l) ks = argsV ev f l ks
  | [], _, _ => rfl
  | k :: ks, hb, he => by
    unfold argsV
    rw [args_few ks (fun j hj => hb j (List.mem_cons_of_mem _ hj)) (fun j hj => he j (List.mem_cons_of_mem _ hj)), he k List.mem_cons_self]
    by_cases h3 : (nodeAt f k).1 = 3
    · have hb := hb k List.mem_cons_self
      rw [if_pos h3, if_pos h3, vals_few (mem_areas (node_mem hb.1 hb.2) (by unfold hasAr; rw [h3]; rfl))]
    · rw [if_neg h3, if_neg h3]
theorem ev_few (A : ∀ (i : Nat) (x : dFNode), f[i]? = some x → stands f i x) : ∀ (n : Nat) (k : Int), 0 ≤ k → k < n → k < f.length → evF n f (fewV (areasV f) l) k = evF n f l k
  | 0, k, h0, h1, _ => by omega
  | n + 1, k, h0, h1, h2 => by
    obtain ⟨x, hx⟩ : ∃ y, f[k.toNat]? = some y := ⟨f[k.toNat]'(by omega), List.getElem?_eq_getElem _⟩
    have hst := A _ _ hx
    have hnx : nodeAt f k = x := by
      unfold nodeAt
      rw [List.getD_eq_getElem?_getD, hx]
      rfl
    have hm : x ∈ f := List.mem_of_getElem? hx
    have hb : ∀ j ∈ x.2.2.2.2.2.1, 0 ≤ j ∧ j < f.length := fun j hj => by
      have := hst.2 j hj
      omega
    have hk : ∀ j ∈ x.2.2.2.2.2.1, evF n f (fewV (areasV f) l) j = evF n f l j := fun j hj => by
      have := hst.2 j hj
      exact ev_few A n j this.1 (by omega) (by omega)
    have h00 : evF n f (fewV (areasV f) l) 0 = evF n f l 0 := by
      cases n with
      | zero => rfl
      | succ n => exact ev_few A (n + 1) 0 (by omega) (by omega) (by omega)
    have hkid : ∀ i : Nat, evF n f (fewV (areasV f) l) (x.2.2.2.2.2.1.getD i 0) = evF n f l (x.2.2.2.2.2.1.getD i 0) := fun i => by
      rw [List.getD_eq_getElem?_getD]
      by_cases e : i < x.2.2.2.2.2.1.length
      · rw [List.getElem?_eq_getElem e]
        exact hk _ (List.getElem_mem e)
      · rw [List.getElem?_eq_none (by omega)]
        exact h00
    unfold evF
    simp only [hnx, hkid]
    have hargs := args_few (l := l) (ev := evF n f l) (ev' := evF n f (fewV (areasV f) l)) _ hb hk
    rw [hargs]
    by_cases k2 : x.1 = 2
    · rw [look_few ⟨_, mem_areas hm (by unfold hasAr; rw [k2]; rfl), ?_⟩]
      unfold areaOf
      rw [if_pos k2]
      exact inA_self _
    · rw [if_neg k2, if_neg k2]
end
theorem asc_pw : ∀ {l : List dRef} {o : Option dRef}, (l.Pairwise fun a b => ahead a b = true) → (∀ a, o = some a → ∀ b ∈ l, ahead a b = true) → ascB o l = true
  | [], o, _, _ => by cases o <;> rfl
  | b :: l, o, h, ho => by
    have h' := List.pairwise_cons.1 h
    rw [ascB_cons, asc_pw (o := some b) h'.2 (fun a e => by cases e; exact h'.1), Bool.and_true]
    cases o with
    | none => rfl
    | some a => exact ho a rfl b List.mem_cons_self
theorem okVs_few {l : List dCellValue} (ar : List dArea) (h : okVs l = true) : okVs (fewV ar l) = true := by
  unfold okVs at h ⊢
  simp only [Bool.and_eq_true, decide_eq_true_eq, List.all_eq_true] at h ⊢
  obtain ⟨h1, h2, h3⟩ := h
  have hl : (fewV ar l).length ≤ l.length := List.length_filter_le _ _
  refine ⟨by omega, fun c hc => h2 c (List.mem_filter.1 hc).1, ?_⟩
  have hp := ascB_none h3
  have hq : ((fewV ar l).map (·.1)).Pairwise fun a b => ahead a b = true := List.Pairwise.sublist (List.Sublist.map _ List.filter_sublist) hp
  exact asc_pw hq (fun a e => by cases e)
theorem eval_few {f : List dFNode} {l : List dCellValue} (h : okF f = true) : evalF f (fewV (areasV f) l) = evalF f l := by
  have hb : inB (f.length : Int) 1 60 = true := by
    unfold okF at h
    simp only [Bool.and_eq_true] at h
    exact h.1
  have := inB_iff.1 hb
  unfold evalF
  rw [ev_few (okF_stands h) f.length _ (by omega) (by omega) (by omega)]
end Go.Proofs.YtiligfmembmapaaGreatDoor.Abs
