/- Values of cells: order of places, what is right, what stands at a place; calls' values. -/
import Derived.Test.YtiligfmembmapaaGreatDoorZPF3
set_option linter.unusedVariables false
set_option linter.unusedSimpArgs false
set_option linter.unusedSectionVars false
namespace Go.Proofs.YtiligfmembmapaaGreatDoor.Abs
open Go

def ahead (a b : dRef) : Bool := decide (a.2.1 < b.2.1) || (decide (a.2.1 = b.2.1) && decide (a.1 < b.1))
def cmpR (a b : dRef) : Int := if cmpI a.2.1 b.2.1 = 0 then cmpI a.1 b.1 else cmpI a.2.1 b.2.1
theorem sl1Ahead_ok (a b : dRef) : sl1Ahead a b = some ((ahead a b, ()), ()) := by
  rw [sl1Ahead_eq]
  unfold ahead
  by_cases h1 : a.2.1 < b.2.1
  · simp [h1]
  · by_cases h2 : a.2.1 = b.2.1 <;> simp [h1, h2]
theorem icompareRefs_ok (a b : dRef) : icompareRefs a b = some ((cmpR a b, ()), ()) := by
  rw [icompareRefs_eq]
  simp only [cmpInt_ok, Option.bind_some]
  rw [cmpOr_ok (by simp)]
  unfold cmpR
  by_cases h1 : cmpI a.2.1 b.2.1 = 0
  · by_cases h2 : cmpI a.1 b.1 = 0 <;> simp [List.find?, h1, h2]
  · simp [List.find?, h1]
theorem cmpR_lt {a b : dRef} : cmpR a b < 0 ↔ ahead a b = true := by
  unfold cmpR ahead cmpI
  simp only [Bool.or_eq_true, Bool.and_eq_true, decide_eq_true_eq]
  by_cases h1 : a.2.1 < b.2.1
  · simp [h1]
  · by_cases h2 : b.2.1 < a.2.1
    · simp [h1, h2]
      omega
    · have h3 : a.2.1 = b.2.1 := by omega
      by_cases h4 : a.1 < b.1
      · simp [h3, h4]
      · by_cases h5 : b.1 < a.1 <;> simp [h3, h4, h5]
theorem cmpR_ge {a b : dRef} : (cmpR a b ≥ 0) ↔ ahead a b = false := by
  rw [ge_iff_le, ← Int.not_lt, cmpR_lt]
  simp
theorem ahead_irrefl (a : dRef) : ahead a a = false := by simp [ahead]
theorem ahead_trans {a b c : dRef} (h : ahead a b = true) (k : ahead b c = true) : ahead a c = true := by
  simp only [ahead, Bool.or_eq_true, Bool.and_eq_true, decide_eq_true_eq] at *
  omega
theorem ref_ext {a b : dRef} (h1 : a.1 = b.1) (h2 : a.2.1 = b.2.1) : a = b := by
  obtain ⟨a1, a2, ⟨⟩⟩ := a
  obtain ⟨b1, b2, ⟨⟩⟩ := b
  simp only at h1 h2
  rw [h1, h2]
theorem ahead_total (a b : dRef) : ahead a b = true ∨ a = b ∨ ahead b a = true := by
  simp only [ahead, Bool.or_eq_true, Bool.and_eq_true, decide_eq_true_eq]
  by_cases h1 : a.2.1 = b.2.1
  · by_cases h2 : a.1 = b.1
    · exact .inr (.inl (ref_ext h2 h1))
    · omega
  · omega
theorem ahead_asymm {a b : dRef} (h : ahead a b = true) : ahead b a = false := by
  cases hb : ahead b a with
  | false => rfl
  | true =>
    have := ahead_trans h hb
    rw [ahead_irrefl] at this
    cases this
theorem ahead_ne {a b : dRef} (h : ahead a b = true) : a ≠ b := by
  rintro rfl
  rw [ahead_irrefl] at h
  cases h
/-- Places one ahead of the other, behind some place. -/
def ascB : Option dRef → List dRef → Bool
  | _, [] => true
  | none, b :: l => ascB (some b) l
  | some a, b :: l => ahead a b && ascB (some b) l
theorem ascB_cons {o : Option dRef} {b : dRef} {l : List dRef} : ascB o (b :: l) = ((match o with | some a => ahead a b | none => true) && ascB (some b) l) := by
  cases o <;> simp [ascB]
theorem ascB_pw : ∀ {l : List dRef} {a : dRef}, ascB (some a) l = true → (∀ b ∈ l, ahead a b = true) ∧ l.Pairwise fun a b => ahead a b = true
  | [], a, _ => ⟨fun b hb => (by cases hb), List.Pairwise.nil⟩
  | b :: l, a, h => by
    simp only [ascB, Bool.and_eq_true] at h
    obtain ⟨h1, h2⟩ := ascB_pw h.2
    refine ⟨fun c hc => ?_, List.pairwise_cons.2 ⟨h1, h2⟩⟩
    rcases List.mem_cons.1 hc with rfl | hc
    · exact h.1
    · exact ahead_trans h.1 (h1 c hc)
theorem ascB_none {l : List dRef} (h : ascB none l = true) : l.Pairwise fun a b => ahead a b = true := by
  cases l with
  | nil => exact List.Pairwise.nil
  | cons a l =>
    obtain ⟨h1, h2⟩ := ascB_pw (l := l) (a := a) h
    exact List.pairwise_cons.2 ⟨h1, h2⟩
def okVs (l : List dCellValue) : Bool := decide ((l.length : Int) ≤ 120) && ((l.all fun c => okRef c.1 && okVal c.2.1) && ascB none (l.map (·.1)))
theorem snoc_of {α : Type} {pre : List α} (h : pre ≠ []) : ∃ q p, pre = q ++ [p] := ⟨pre.dropLast, pre.getLast h, (List.dropLast_concat_getLast h).symm⟩
section
variable {xs : List dCellValue} (hl : xs.length ≤ 10000000) (hs : ∀ c ∈ xs, c.2.1.2.2.1.size ≤ 9223372036854775807)
include hl hs
theorem sValuesOk_loop : ∀ (ys pre : List dCellValue), xs = pre ++ ys → sValuesOk_p4 xs (pre.length : Int) = some (((ys.all fun c => okRef c.1 && okVal c.2.1) && ascB (pre.getLast?.map (·.1)) (ys.map (·.1)), ()), ())
  | [], pre, he => by
    rw [sValuesOk_p4_eq, ifF (nlt_at he)]
    simp [ascB]
  | y :: ys, pre, he => by
    have ih := sValuesOk_loop ys _ (next_at he)
    have hy := hs y (by rw [he]; simp)
    rw [sValuesOk_p4_eq, ifT (lt_at he)]
    simp only [ix_at he, sRefOk_ok, sValueOk_ok hy, Option.bind_some, wrap_at he (by omega), ih]
    simp only [List.all_cons, List.map_cons, ascB_cons, List.getLast?_append, List.getLast?_singleton, Option.some_or, Option.map_some]
    cases okRef y.1 with
    | false => simp
    | true =>
      cases okVal y.2.1 with
      | false => simp
      | true =>
        by_cases hp : pre = []
        · subst hp
          simp
        · obtain ⟨q, p, rfl⟩ := snoc_of hp
          have hq : xs = q ++ p :: (y :: ys) := by rw [he]; simp
          have hw : (((q ++ [p]).length : Nat) : Int) - 1 = (q.length : Int) := by simp
          have h0 : ((q ++ [p]).length : Int) > 0 := by rw [List.length_append, List.length_singleton]; omega
          simp only [hw, decide_eq_true h0, if_true, Bool.not_true, Bool.false_eq_true, if_false]
          rw [wr1 (by omega) (by have := lt_at hq; omega), ix_at hq, sl1Ahead_ok, Option.bind_some]
          simp only [List.getLast?_append, List.getLast?_singleton, Option.some_or, Option.map_some, Bool.true_and]
          cases ahead p.1 y.1 <;> simp
theorem sValuesOk_ok : sValuesOk xs = some ((okVs xs, ()), ()) := by
  rw [sValuesOk_eq]
  unfold okVs
  by_cases h : (xs.length : Int) > 120
  · rw [ifT h, decide_eq_false (by omega)]
    rfl
  · rw [ifF h, decide_eq_true (by omega)]
    have := sValuesOk_loop hl hs xs [] rfl
    simpa using this
theorem iValuesOk_loop : ∀ (ys pre : List dCellValue), xs = pre ++ ys → iValuesOk_p2 xs xs (xs.length : Int) (pre.length : Int) = some ((((ys.all fun c => okRef c.1 && okVal c.2.1) && ascB (pre.getLast?.map (·.1)) (ys.map (·.1))) && decide ((xs.length : Int) ≤ 120), ()), ())
  | [], pre, he => by
    rw [iValuesOk_p2_eq, ifF (nlt_at he)]
    simp [ascB]
  | y :: ys, pre, he => by
    have ih := iValuesOk_loop ys _ (next_at he)
    have hy := hs y (by rw [he]; simp)
    rw [iValuesOk_p2_eq, ifT (lt_at he)]
    simp only [ix_at he, iRefOk_ok, iValueOk_ok hy, Option.bind_some, wrap_at he (by omega), ih]
    simp only [List.all_cons, List.map_cons, ascB_cons, List.getLast?_append, List.getLast?_singleton, Option.some_or, Option.map_some]
    cases okRef y.1 with
    | false => simp
    | true =>
      by_cases hp : pre = []
      · subst hp
        cases okVal y.2.1 <;> simp
      · obtain ⟨q, p, rfl⟩ := snoc_of hp
        have hq : xs = q ++ p :: (y :: ys) := by rw [he]; simp
        have hw : (((q ++ [p]).length : Nat) : Int) - 1 = (q.length : Int) := by simp
        have h0 : ((q ++ [p]).length : Int) > 0 := by rw [List.length_append, List.length_singleton]; omega
        simp only [hw, decide_eq_true h0, if_true, Bool.not_true, Bool.false_eq_true, if_false]
        rw [wr1 (by omega) (by have := lt_at hq; omega), ix_at hq, icompareRefs_ok, Option.bind_some]
        simp only [List.getLast?_append, List.getLast?_singleton, Option.some_or, Option.map_some, Bool.true_and]
        cases ha : ahead p.1 y.1 with
        | true =>
          have : ¬ (cmpR p.1 y.1 ≥ 0) := by rw [cmpR_ge, ha]; simp
          rw [ifF this]
          cases okVal y.2.1 <;> simp
        | false =>
          rw [ifT (cmpR_ge.2 ha)]
          cases okVal y.2.1 <;> simp
theorem iValuesOk_ok : iValuesOk xs = some ((okVs xs, ()), ()) := by
  rw [iValuesOk_eq]
  unfold okVs
  have := iValuesOk_loop hl hs xs [] rfl
  rw [Bool.and_comm]
  simpa using this
end
/-! ### What stands at a place -/
theorem eqRf {a b : dRef} : (eqB tRef a b = true) = (a = b) := propext (eqB_iff rfl)
/-- The value at a place. -/
def lookV : List dCellValue → dRef → dValue
  | [], _ => v0
  | c :: l, r => if c.1 = r then c.2.1 else lookV l r
section
variable {xs : List dCellValue} (hl : xs.length ≤ 10000000)
include hl
theorem sl6At_loop {r : dRef} {a b : Int} {s : ByteArray} : ∀ (ys pre : List dCellValue), xs = pre ++ ys → sl6At_p2 xs (pre.length : Int) r.1 r.2.1 a b s = some ((lookV ys r, ()), ())
  | [], pre, he => by
    rw [sl6At_p2_eq, ifF (nlt_at he)]
    rfl
  | y :: ys, pre, he => by
    rw [sl6At_p2_eq, ifT (lt_at he), ix_at he, ix_at he, wrap_at he (by omega), sl6At_loop ys _ (next_at he)]
    show (if eqB tRef y.1 r = true then _ else _) = _
    rw [lookV]
    by_cases h : y.1 = r
    · rw [if_pos (by rw [eqRf]; exact h), if_pos h]
    · rw [if_neg (by rw [eqRf]; exact h), if_neg h]
theorem sl6At_ok (r : dRef) : sl6At xs r = some ((lookV xs r, ()), ()) := by
  rw [sl6At_eq]
  exact sl6At_loop hl xs [] rfl
theorem ilookup_loop {r : dRef} {a b : Int} {s : ByteArray} : ∀ (ys pre : List dCellValue), xs = pre ++ ys → ilookup_p2 xs (xs.length : Int) (pre.length : Int) r.1 r.2.1 a b s = some ((lookV ys r, ()), ())
  | [], pre, he => by
    rw [ilookup_p2_eq, ifF (nlt_at he)]
    rfl
  | y :: ys, pre, he => by
    rw [ilookup_p2_eq, ifT (lt_at he), ix_at he, wrap_at he (by omega), ilookup_loop ys _ (next_at he)]
    show (if eqB tRef y.1 r = true then _ else _) = _
    rw [lookV]
    by_cases h : y.1 = r
    · rw [if_pos (by rw [eqRf]; exact h), if_pos h]
    · rw [if_neg (by rw [eqRf]; exact h), if_neg h]
theorem ilookup_ok (r : dRef) : ilookup xs r = some ((lookV xs r, ()), ()) := by
  rw [ilookup_eq]
  exact ilookup_loop hl xs [] rfl
end
theorem okV0 : okVal v0 = true := by decide
theorem lookV_ok : ∀ {l : List dCellValue} {r : dRef}, (∀ c ∈ l, okVal c.2.1 = true) → okVal (lookV l r) = true
  | [], r, _ => okV0
  | c :: l, r, h => by
    unfold lookV
    split
    · exact h c (List.mem_cons_self ..)
    · exact lookV_ok fun d hd => h d (List.mem_cons_of_mem _ hd)
theorem okVs_vals {l : List dCellValue} (h : okVs l = true) : ∀ c ∈ l, okVal c.2.1 = true := by
  unfold okVs at h
  simp only [Bool.and_eq_true, List.all_eq_true] at h
  exact fun c hc => (h.2.1 c hc).2
/-! ### All that is said is right -/
theorem okErr {n : Int} (h0 : 1 ≤ n) (h1 : n ≤ 5) : okVal (vE n) = true := by
  unfold okVal vE
  simp [inB]
  omega
theorem okN {n : Int} (h0 : -1000000000000000 ≤ n) (h1 : n ≤ 1000000000000000) : okVal (vN n) = true := by
  unfold okVal vN
  simp [inB]
  omega
theorem okB (b : Bool) : okVal (vB b) = true := by cases b <;> decide
theorem okBnd (n : Int) : okVal (bnd n) = true := by
  unfold bnd
  split
  · have := inB_iff.1 ‹_›
    exact okN this.1 this.2
  · exact okErr (by decide) (by decide)
theorem okNon (v : dValue) : okVal (nonV v) = true := by
  unfold nonV
  split
  · split
    · assumption
    · exact okErr (by decide) (by decide)
  · exact okErr (by decide) (by decide)
theorem okTwo {f : Int → Int → dValue} (hf : ∀ x y, okVal (f x y) = true) (a b : dValue) : okVal (two f a b) = true := by
  unfold two
  split
  · split
    · exact hf _ _
    · exact okNon _
  · exact okNon _
theorem okAdd (a b : dValue) : okVal (addV a b) = true := okTwo (fun _ _ => okBnd _) a b
theorem okSub (a b : dValue) : okVal (subV a b) = true := okTwo (fun _ _ => okBnd _) a b
theorem okMul (a b : dValue) : okVal (mulV a b) = true := okTwo (fun x y => by
  unfold mulF
  split
  · exact okN (by omega) (by omega)
  · exact okErr (by decide) (by decide)) a b
theorem okDiv (a b : dValue) : okVal (divV a b) = true := okTwo (fun x y => by
  split
  · exact okErr (by decide) (by decide)
  · exact okBnd _) a b
theorem okNeg (a : dValue) : okVal (negV a) = true := okSub _ _
/-- Digits and signs: what numbers' texts are made of. -/
theorem digits_pr : ∀ (n u : Nat), u ≤ n → ∀ b ∈ Lib.decDigits u, 48 ≤ b.toNat ∧ b.toNat ≤ 57 := by
  intro n
  induction n with
  | zero =>
    intro u h b hb
    rw [Lib.decDigits, dif_pos (by omega)] at hb
    rw [List.mem_singleton.1 hb]
    have : u = 0 := by omega
    subst this
    decide
  | succ n ih =>
    intro u h b hb
    rw [Lib.decDigits] at hb
    split at hb
    · rename_i h10
      rw [List.mem_singleton.1 hb]
      simp only [UInt8.toNat_ofNat']
      omega
    · rcases List.mem_append.1 hb with hb | hb
      · exact ih (u / 10) (by omega) b hb
      · rw [List.mem_singleton.1 hb]
        simp only [UInt8.toNat_ofNat']
        omega
theorem bts_mk (l : List UInt8) : bts ⟨l.toArray⟩ = l.map fun b => (b.toNat : Int) := by simp [bts]
theorem itoa_plain (n : Int) : plain (itoaB n) = true := by
  have hu : ∀ u : Nat, plain ⟨(Lib.decDigits u).toArray⟩ = true := by
    intro u
    unfold plain
    rw [bts_mk, List.all_eq_true]
    intro x hx
    obtain ⟨b, hb, rfl⟩ := List.mem_map.1 hx
    have := digits_pr u u (Nat.le_refl _) b hb
    unfold prB
    simp
    omega
  by_cases h : n < 0
  · rw [itoaB_neg h, show -n = ((-n).toNat : Int) by omega, itoaB_nat]
    have := hu (-n).toNat
    unfold plain at this ⊢
    rw [bts_append, List.all_append, this]
    decide
  · rw [show n = (n.toNat : Int) by omega, itoaB_nat]
    exact hu _
theorem plain_app {a b : ByteArray} : plain (a ++ b) = (plain a && plain b) := by
  unfold plain
  rw [bts_append, List.all_append]
theorem errT_plain (n : Int) : plain (errT n) = true := by
  have h : ∀ i : Nat, i < 6 → plain (errL.getD i eS) = true := by decide
  unfold errT
  by_cases hn : n.toNat < 6
  · exact h _ hn
  · rw [List.getD_eq_getElem?_getD, List.getElem?_eq_none (by show 6 ≤ n.toNat; omega)]
    decide
theorem okVal_2 {v : dValue} (h : okVal v = true) (k : v.1 = 2) : v.2.1 = 0 ∧ plain v.2.2.1 = true ∧ v.2.2.1.size ≤ 200 := by
  unfold okVal at h
  rw [if_pos k] at h
  simp only [Bool.and_eq_true, decide_eq_true_eq] at h
  exact ⟨h.1, h.2.1, by omega⟩
theorem valT_plain {v : dValue} (h : okVal v = true) : plain (valT v) = true := by
  unfold valT
  split
  · exact itoa_plain _
  · split
    · rw [plain_app, (okVal_2 h ‹_›).2.1]
      decide
    · split
      · unfold boolT
        split <;> decide
      · split
        · exact errT_plain _
        · decide
theorem txt_plain {v : dValue} (h : okVal v = true) : plain (txt v) = true := by
  unfold txt
  split
  · exact (okVal_2 h ‹_›).2.1
  · exact valT_plain h
theorem okT {s : ByteArray} (h : plain s = true) (k : s.size ≤ 200) : okVal (vT s) = true := by
  unfold okVal vT
  simp [h]
  omega
theorem okJoin (a b : dValue) : okVal (joinV a b) = true := by
  unfold joinV
  split
  · split
    · split
      · exact okErr (by decide) (by decide)
      · rename_i h1 h2 h3
        refine okT ?_ (by rw [size_append]; omega)
        rw [plain_app, txt_plain (isTx_ok h1), txt_plain (isTx_ok h2)]
        rfl
    · exact okNon _
  · exact okNon _
theorem okHeld (op : Int) (a b : dValue) : okVal (heldV op a b) = true := by
  unfold heldV
  split
  · split
    · split
      · split
        · assumption
        · split
          · assumption
          · exact okB _
      · exact okErr (by decide) (by decide)
    · exact okErr (by decide) (by decide)
  · exact okErr (by decide) (by decide)
end Go.Proofs.YtiligfmembmapaaGreatDoor.Abs
