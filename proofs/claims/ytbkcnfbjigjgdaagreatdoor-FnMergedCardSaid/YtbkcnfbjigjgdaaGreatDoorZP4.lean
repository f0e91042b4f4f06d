/- Plain laws: numbers that are typed. -/
import Derived.Test.YtbkcnfbjigjgdaaGreatDoorZP3
set_option linter.unusedVariables false
set_option linter.unusedSimpArgs false
set_option linter.unusedSectionVars false
namespace Go.Proofs.YtbkcnfbjigjgdaaGreatDoor.Abs
open Go

/-- Digits that make no great number. -/
def okDig (d : Bys) : Bool := d.all dgB && decide (valD 0 d ≤ 1000000000000000)
theorem can_of {d : Bys} (hne : d ≠ []) (h : d.length = 1 ∨ d.head? ≠ some 48) : canB d = d.all dgB := by
  have hl := List.length_pos_iff.2 hne
  unfold canB
  rw [decide_eq_true (show 1 ≤ d.length by omega), Bool.and_true]
  rcases h with h | h
  · rw [decide_eq_true h]; simp
  · rw [decide_eq_false h]; simp
theorem rd_dig {d : Bys} (hne : d ≠ []) (h : d.length = 1 ∨ d.head? ≠ some 48) : (rdInt d 16 && decide (valD 0 d ≤ 1000000000000000)) = okDig d := by
  unfold rdInt okDig
  rw [can_of hne h]
  cases ha : d.all dgB with
  | false => simp
  | true =>
    simp only [Bool.true_and]
    by_cases hv : valD 0 d ≤ 1000000000000000
    · have hd := (dec_val d (by rw [can_of hne h]; exact ha)).1
      have := dec16 hv
      rw [hd] at this
      rw [decide_eq_true this]
      rfl
    · rw [decide_eq_false hv, Bool.and_false]
theorem rd_lt {d : Bys} (h : rdInt d 16 = true) : valD 0 d < 10000000000000000 := by
  unfold rdInt canB at h
  simp only [Bool.and_eq_true, decide_eq_true_eq] at h
  have := valD_lt d 0 h.1.1.1
  have h2 : 10 ^ d.length ≤ 10 ^ 16 := Nat.pow_le_pow_right (by decide) h.2
  omega
theorem okVN (n : Int) : okVal (vN n) = inB n (-1000000000000000) 1000000000000000 := by
  unfold okVal vN
  simp
/-- A number with its sign. -/
def sgnI (b : Bool) (n : Nat) : Int := if b = true then -(n : Int) else n
theorem sgn_ok {b : Bool} {n : Nat} : okVal (vN (sgnI b n)) = decide (n ≤ 1000000000000000) := by
  rw [okVN]
  unfold sgnI inB
  rw [Bool.eq_iff_iff, decide_eq_true_eq, decide_eq_true_eq]
  cases b <;> simp <;> omega
theorem p6_end {d : Bys} {b : Bool} : ((sl1Int (ba d) 16).bind fun z4 => (if b = true then (if z4.1.2.1 = true then ((sValueOk (1, (IntKind.i64.wrap (0 - z4.1.1)), (⟨#[]⟩ : ByteArray), ())).bind fun z5 => (some (((1, (IntKind.i64.wrap (0 - z4.1.1)), (⟨#[]⟩ : ByteArray), ()), z5.1.1, ()), (())))) else (some (((1, (IntKind.i64.wrap (0 - z4.1.1)), (⟨#[]⟩ : ByteArray), ()), false, ()), (())))) else (if z4.1.2.1 = true then ((sValueOk (1, z4.1.1, (⟨#[]⟩ : ByteArray), ())).bind fun z6 => (some (((1, z4.1.1, (⟨#[]⟩ : ByteArray), ()), z6.1.1, ()), (())))) else (some (((1, z4.1.1, (⟨#[]⟩ : ByteArray), ()), false, ()), (()))))))
    = (some ((vN (sgnI b (if rdInt d 16 = true then valD 0 d else 0)), (rdInt d 16 && decide (valD 0 d ≤ 1000000000000000)), ()), ()) : Option ((dValue × Bool × Unit) × Unit)) := by
  have e := sl1Int_ok d (m := 16) (by decide)
  have e : sl1Int (ba d) 16 = _ := e
  rw [e]
  simp only [Option.bind_some]
  cases hr : rdInt d 16 with
  | false => cases b <;> rfl
  | true =>
    have hlt := rd_lt hr
    simp only [if_true, Bool.true_and]
    cases b with
    | true =>
      simp only [if_true]
      rw [wr (by omega) (by omega)]
      have ev : ((1, 0 - ((valD 0 d : Nat) : Int), (⟨#[]⟩ : ByteArray), ()) : dValue) = vN (sgnI true (valD 0 d)) := by
        unfold vN sgnI
        rw [if_pos rfl, show (0 : Int) - ((valD 0 d : Nat) : Int) = -((valD 0 d : Nat) : Int) by omega]
      rw [ev, sValueOk_ok (by show eS.size ≤ _; decide), sgn_ok]
      rfl
    | false =>
      simp only [Bool.false_eq_true, if_false]
      have ev : ((1, ((valD 0 d : Nat) : Int), (⟨#[]⟩ : ByteArray), ()) : dValue) = vN (sgnI false (valD 0 d)) := rfl
      rw [ev, sValueOk_ok (by show eS.size ≤ _; decide), sgn_ok]
      rfl
theorem p6_ok {b : Bool} : ∀ (d : Bys), d ≠ [] → d.length ≤ 9223372036854775807 → ∃ v : dValue, sl5Number_p6 (ba d) b 0 0 (⟨#[]⟩ : ByteArray) = some ((v, okDig d, ()), ()) ∧ (okDig d = true → v = vN (sgnI b (valD 0 d)))
  | [], h, _ => absurd rfl h
  | c :: l, h, hl => by
    have fin : (c :: l : Bys).length = 1 ∨ (c :: l : Bys).head? ≠ some 48 → ∃ v : dValue, (some ((vN (sgnI b (if rdInt (c :: l) 16 = true then valD 0 (c :: l) else 0)), (rdInt (c :: l) 16 && decide (valD 0 (c :: l) ≤ 1000000000000000)), ()), ()) : Option ((dValue × Bool × Unit) × Unit)) = some ((v, okDig (c :: l), ()), ()) ∧ (okDig (c :: l) = true → v = vN (sgnI b (valD 0 (c :: l)))) := by
      intro hc
      rw [rd_dig h hc]
      refine ⟨_, rfl, fun ho => ?_⟩
      rw [← rd_dig h hc, Bool.and_eq_true] at ho
      rw [if_pos ho.1]
    rw [sl5Number_p6_eq, size_ba]
    by_cases h1 : 1 < (c :: l : Bys).length
    · rw [ifT (by omega), ixs_hd, u8eq c 48 (n := 48) rfl]
      by_cases h48 : c = 48
      · subst h48
        rw [ifT rfl, show (1 : Int) = ((1 : Nat) : Int) from rfl, sll_ba (by simp)]
        simp only [List.drop_succ_cons, List.drop_zero]
        have hne : l ≠ [] := by
          rintro rfl
          simp at h1
        have hll : l.length ≤ 9223372036854775807 := by rw [List.length_cons] at hl; omega
        obtain ⟨v, e1, e2⟩ := p6_ok (b := b) l hne hll
        have eo : okDig (48 :: l) = okDig l := by
          unfold okDig
          rfl
        rw [eo]
        exact ⟨v, e1, e2⟩
      · rw [ifF h48, p6_end]
        exact fin (.inr (by simpa using h48))
    · rw [ifF (by omega), p6_end]
      exact fin (.inl (by simp only [List.length_cons] at h1 ⊢; omega))
end Go.Proofs.YtbkcnfbjigjgdaaGreatDoor.Abs
/- Plain laws: what is typed: the inputs of both sides are one. -/
set_option linter.unusedVariables false
set_option linter.unusedSimpArgs false
set_option linter.unusedSectionVars false
namespace Go.Proofs.YtbkcnfbjigjgdaaGreatDoor.Abs
open Go

def ngB (w : Bys) : Bool := decide (w.head? = some 45)
def mgB (w : Bys) : Bys := if w.head? = some 45 then w.drop 1 else w
def okNum (w : Bys) : Bool := decide (mgB w ≠ []) && okDig (mgB w)
def numI (w : Bys) : Int := sgnI (ngB w) (valD 0 (mgB w))
theorem sl5Number_ok {w : Bys} (hw : w ≠ []) (hl : w.length ≤ 9223372036854775807) : ∃ v : dValue, sl5Number (ba w) = some ((v, okNum w, ()), ()) ∧ (okNum w = true → v = vN (numI w)) := by
  cases w with
  | nil => exact absurd rfl hw
  | cons c l =>
    rw [sl5Number_eq, size_ba, ifT (by simp), ixs_hd, u8eq c 45 (n := 45) rfl]
    by_cases hc : c = 45
    · subst hc
      have hm : mgB (45 :: l) = l := rfl
      have hg : ngB (45 :: l) = true := rfl
      have e0 : (ByteArray.toList (ba l) == ByteArray.toList (⟨#[]⟩ : ByteArray)) = decide (l = []) := eqS_ba (b := [])
      rw [ifT rfl, show (1 : Int) = ((1 : Nat) : Int) from rfl, sll_ba (by simp)]
      simp only [List.drop_succ_cons, List.drop_zero]
      rw [e0]
      unfold okNum numI
      rw [hm, hg]
      by_cases hn : l = []
      · rw [ifT hn]
        subst hn
        exact ⟨_, rfl, fun h => by cases h⟩
      · rw [ifF hn]
        obtain ⟨v, e1, e2⟩ := p6_ok (b := true) l hn (by rw [List.length_cons] at hl; omega)
        refine ⟨v, ?_, fun h => ?_⟩
        · simpa [hn] using e1
        · rw [Bool.and_eq_true] at h
          exact e2 h.2
    · have hm : mgB (c :: l) = c :: l := if_neg (by simpa using hc)
      have hg : ngB (c :: l) = false := decide_eq_false (by simpa using hc)
      have e0 : (ByteArray.toList (ba (c :: l)) == ByteArray.toList (⟨#[]⟩ : ByteArray)) = decide (c :: l = []) := eqS_ba (b := [])
      rw [ifF hc, e0, ifF (by simp)]
      unfold okNum numI
      rw [hm, hg]
      obtain ⟨v, e1, e2⟩ := p6_ok (b := false) (c :: l) (by simp) hl
      refine ⟨v, ?_, fun h => ?_⟩
      · simpa [hc] using e1
      · rw [Bool.and_eq_true] at h
        exact e2 h.2
theorem dg_set : (fun c => ([48, 49, 50, 51, 52, 53, 54, 55, 56, 57] : Bys).contains c) = dgB := funext fun c => all8 (p := fun c => ([48, 49, 50, 51, 52, 53, 54, 55, 56, 57] : Bys).contains c = dgB c) (by decide +kernel) c
theorem dropW_head {p : UInt8 → Bool} : ∀ {l : Bys} {x : UInt8} {t : Bys}, l.dropWhile p = x :: t → p x = false
  | c :: l, x, t, h => by
    cases hc : p c with
    | true =>
      rw [List.dropWhile_cons_of_pos hc] at h
      exact dropW_head h
    | false =>
      rw [List.dropWhile_cons_of_neg (by rw [hc]; decide)] at h
      cases h
      exact hc
theorem dropW_nil {p : UInt8 → Bool} : ∀ {l : Bys}, l.dropWhile p = [] ↔ l.all p = true
  | [] => by simp
  | c :: l => by
    cases hc : p c with
    | true => rw [List.dropWhile_cons_of_pos hc, dropW_nil]; simp [hc]
    | false => rw [List.dropWhile_cons_of_neg (by rw [hc]; decide)]; simp [hc]
theorem trim_nil (d : Bys) : (Lib.trimS d [48, 49, 50, 51, 52, 53, 54, 55, 56, 57] = []) ↔ d.all dgB = true := by
  unfold Lib.trimS Lib.trimLeftS Lib.trimRightS
  rw [dg_set, dropW_nil]
  constructor
  · intro h
    cases hr : d.reverse.dropWhile dgB with
    | nil =>
      rw [dropW_nil] at hr
      simpa using hr
    | cons x t =>
      have hx := dropW_head hr
      rw [hr] at h
      simp only [List.all_reverse, List.all_cons, Bool.and_eq_true] at h
      rw [hx] at h
      cases h.1
  · intro h
    have : d.reverse.dropWhile dgB = [] := dropW_nil.2 (by simpa using h)
    rw [this]
    rfl
theorem iisDigits_ok {w : Bys} (hl : w.length ≤ 1000000) : iisDigits (ba w) = some (((decide (mgB w ≠ []) && (mgB w).all dgB), ()), ()) := by
  have hp : strings_TrimPrefix (ba w) (⟨#[45]⟩ : ByteArray) = some ((ba (mgB w), ()), ()) := by
    rw [strings_TrimPrefix_eq, stringslite_TrimPrefix_eq, show (⟨#[45]⟩ : ByteArray) = ba [45] from rfl, hasPre_lite _ _ (by omega)]
    simp only [Option.bind_some, pre1]
    unfold mgB
    by_cases h : w.head? = some 45
    · obtain ⟨t, rfl⟩ := head_cons h
      rw [ifT h, if_pos h, size_ba, sll_ba (by simp)]
      rfl
    · rw [ifF h, if_neg h]
      rfl
  rw [iisDigits_eq, hp]
  simp only [Option.bind_some]
  have e0 : ∀ x : Bys, (ByteArray.toList (ba x) == ByteArray.toList (⟨#[]⟩ : ByteArray)) = decide (x = []) := fun x => eqS_ba (b := [])
  have hm : (mgB w).length ≤ w.length := by
    unfold mgB
    split <;> simp
  rw [e0]
  by_cases hn : mgB w = []
  · simp [hn]
  · have ht : strings_Trim (ba (mgB w)) (⟨#[48, 49, 50, 51, 52, 53, 54, 55, 56, 57]⟩ : ByteArray) = some ((ba (Lib.trimS (mgB w) [48, 49, 50, 51, 52, 53, 54, 55, 56, 57]), ()), ()) := by
      rw [strings_Trim_eq]
      show (if asciiB (ba [48, 49, 50, 51, 52, 53, 54, 55, 56, 57]) = true ∧ (ba (mgB w)).size ≤ 9223372036854775807 then some (((⟨(Lib.trimS (lb (ba (mgB w))) (lb (ba [48, 49, 50, 51, 52, 53, 54, 55, 56, 57]))).toArray⟩ : ByteArray), ()), ()) else none) = _
      rw [if_pos ⟨by decide +kernel, by rw [size_ba]; omega⟩, lb_ba, lb_ba]
    rw [ht]
    simp only [Option.bind_some, hn, decide_false, Bool.not_false, if_true, e0, ne_eq, not_false_eq_true, decide_true, Bool.true_and]
    congr 3
    rw [Bool.eq_iff_iff, decide_eq_true_eq]
    exact trim_nil _
theorem pm_val : ∀ (l : Bys) (a u : Nat), l.all dgB = true → Lib.parseUintM 18446744073709551615 a l = .ok u → u = valD a l
  | [], a, u, _, h => by
    cases h
    rfl
  | c :: l, a, u, h, hp => by
    simp only [List.all_cons, Bool.and_eq_true] at h
    have hd : 48 ≤ c.toNat ∧ c.toNat ≤ 57 := by simpa [dgB] using h.1
    unfold Lib.parseUintM at hp
    rw [if_pos hd] at hp
    split at hp
    · cases hp
    · split at hp
      · cases hp
      · exact pm_val l _ u h.2 hp
theorem parse_val {w : Bys} (hne : mgB w ≠ []) (hd : (mgB w).all dgB = true) (h : (parseV w).2 = true) : (parseV w).1 = numI w := by
  unfold parseV at h ⊢
  cases hp : Lib.parseIntB 64 w with
  | range => rw [hp] at h; cases h
  | ok v =>
    simp only
    cases w with
    | nil => exact absurd rfl hne
    | cons c l =>
      unfold Lib.parseIntB at hp
      simp only at hp
      unfold numI
      by_cases hc : c = 45
      · subst hc
        have hm : mgB (45 :: l) = l := rfl
        have hg : ngB (45 :: l) = true := rfl
        rw [hm] at hne hd
        have h45 : (45 : UInt8).toNat = 45 := rfl
        rw [if_pos (.inr h45)] at hp
        unfold Lib.parseUintB at hp
        rw [if_neg hne] at hp
        cases hu : Lib.parseUintM (2 ^ 64 - 1) 0 l with
        | range => rw [hu] at hp; cases hp
        | ok u =>
          rw [hu] at hp
          have := pm_val l 0 u hd hu
          simp only at hp
          split at hp
          · cases hp
          · split at hp
            · cases hp
            · cases hp
              rw [hm, hg, this]
              rfl
        | _ => rw [hu] at hp; cases hp
      · have hm : mgB (c :: l) = c :: l := if_neg (by simpa using hc)
        have hg : ngB (c :: l) = false := decide_eq_false (by simpa using hc)
        rw [hm] at hd
        have hcd : 48 ≤ c.toNat ∧ c.toNat ≤ 57 := by
          simp only [List.all_cons, Bool.and_eq_true] at hd
          simpa [dgB] using hd.1
        rw [if_neg (by omega)] at hp
        unfold Lib.parseUintB at hp
        rw [if_neg (by simp)] at hp
        cases hu : Lib.parseUintM (2 ^ 64 - 1) 0 (c :: l) with
        | range => rw [hu] at hp; cases hp
        | ok u =>
          rw [hu] at hp
          have := pm_val (c :: l) 0 u hd hu
          simp only at hp
          split at hp
          · cases hp
          · split at hp
            · cases hp
            · rw [if_neg (by omega)] at hp
              cases hp
              rw [hm, hg, this]
              rfl
        | _ => rw [hu] at hp; cases hp
  | _ => rw [hp] at h; cases h
end Go.Proofs.YtbkcnfbjigjgdaaGreatDoor.Abs
/- Plain laws: InputOf of both sides is one. -/
set_option linter.unusedVariables false
set_option linter.unusedSimpArgs false
set_option linter.unusedSectionVars false
namespace Go.Proofs.YtbkcnfbjigjgdaaGreatDoor.Abs
open Go

theorem parse_okNum {w : Bys} (h : okNum w = true) : parseV w = (numI w, true) := by
  unfold okNum okDig at h
  simp only [Bool.and_eq_true, decide_eq_true_eq] at h
  obtain ⟨hne, hd, hv⟩ := h
  have hp2 : (parseV w).2 = true := by
    cases w with
    | nil => exact absurd rfl hne
    | cons c l =>
      by_cases hc : c = 45
      · subst hc
        have hm : mgB (45 :: l) = l := rfl
        rw [hm] at hne hd hv
        have h45 : (45 : UInt8).toNat = 45 := rfl
        have hu : Lib.parseUintM (2 ^ 64 - 1) 0 l = .ok (valD 0 l) := pm_ok l 0 hd (by omega)
        have : Lib.parseIntB 64 (45 :: l) = .ok (-((valD 0 l : Nat) : Int)) := by
          unfold Lib.parseIntB
          simp only
          rw [if_pos (.inr h45)]
          unfold Lib.parseUintB
          rw [if_neg hne, hu]
          simp only
          rw [if_neg (by omega), if_neg (by omega)]
          rfl
        unfold parseV
        rw [this]
      · have hm : mgB (c :: l) = c :: l := if_neg (by simpa using hc)
        rw [hm] at hd hv
        have hcd : 48 ≤ c.toNat ∧ c.toNat ≤ 57 := by
          have hd' := hd
          simp only [List.all_cons, Bool.and_eq_true] at hd'
          simpa [dgB] using hd'.1
        have hu : Lib.parseUintM (2 ^ 64 - 1) 0 (c :: l) = .ok (valD 0 (c :: l)) := pm_ok (c :: l) 0 hd (by omega)
        have : Lib.parseIntB 64 (c :: l) = .ok ((valD 0 (c :: l) : Nat) : Int) := by
          unfold Lib.parseIntB
          simp only
          rw [if_neg (by omega)]
          unfold Lib.parseUintB
          rw [if_neg (by simp), hu]
          simp only
          rw [if_neg (by omega), if_neg (by omega), if_neg (by omega)]
        unfold parseV
        rw [this]
  exact Prod.ext (parse_val hne hd hp2) hp2
theorem num_no {w : Bys} (h : okNum w = false) (h1 : (parseV w).2 = true) (h2 : (decide (mgB w ≠ []) && (mgB w).all dgB) = true) : okVal (vN (parseV w).1) = false := by
  simp only [Bool.and_eq_true, decide_eq_true_eq] at h2
  rw [parse_val h2.1 h2.2 h1]
  unfold numI
  rw [sgn_ok]
  unfold okNum okDig at h
  rw [decide_eq_true h2.1, h2.2] at h
  simpa using h
theorem numI_range {w : Bys} (h : okNum w = true) : -1000000000000000 ≤ numI w ∧ numI w ≤ 1000000000000000 := by
  unfold okNum okDig at h
  simp only [Bool.and_eq_true, decide_eq_true_eq] at h
  unfold numI sgnI
  split <;> omega
theorem inputOf_ok {x : ByteArray} (hx : x.size ≤ 9223372036854775807) : ∃ (t : Bys) (b : Bool), iInputOf x = some ((ba t, b, ()), ()) ∧ sInputOf x = some ((ba t, b, ()), ()) ∧ t.length ≤ 200 := by
  obtain ⟨w, rfl⟩ : ∃ s, x = ba s := ⟨lb x, (ba_lb x).symm⟩
  rw [iInputOf_eq, sInputOf_eq, sl2Plain_ok hx, iisText_ok hx]
  simp only [Option.bind_some]
  have e0 : ∀ x : Bys, (ByteArray.toList (ba x) == ByteArray.toList (⟨#[]⟩ : ByteArray)) = decide (x = []) := fun x => eqS_ba (b := [])
  rw [e0]
  cases hp : (plain (ba w) && decide (((ba w).size : Int) ≤ 200)) with
  | false =>
    have hw : w ≠ [] := by
      rintro rfl
      exact absurd hp (by decide)
    rw [decide_eq_false hw]
    exact ⟨[], false, rfl, rfl, by simp⟩
  | true =>
    have hp' := hp
    rw [Bool.and_eq_true, decide_eq_true_eq, size_ba] at hp'
    have hl : w.length ≤ 200 := by omega
    simp only [Bool.not_true, Bool.false_eq_true, if_false]
    by_cases hw : w = []
    · subst hw
      exact ⟨[], true, rfl, rfl, by simp⟩
    · rw [ifF hw, ifF hw]
      have hcut : strings_CutPrefix (ba w) (⟨#[61]⟩ : ByteArray) = _ := cutPre_ok w [61] (by omega)
      rw [hcut]
      simp only [Option.bind_some, pre1]
      cases w with
      | nil => exact absurd rfl hw
      | cons c l =>
        rw [ixs_hd, u8eq c 61 (n := 61) rfl]
        by_cases hc : c = 61
        · subst hc
          have hll : l.length ≤ 200 := by rw [List.length_cons] at hl; omega
          simp only [List.head?_cons, decide_true, if_true, List.length_singleton, List.drop_succ_cons, List.drop_zero]
          rw [show (1 : Int) = ((1 : Nat) : Int) from rfl, sll_ba (by simp)]
          simp only [List.drop_succ_cons, List.drop_zero]
          obtain ⟨f, b, r1, r2, r3, r4⟩ := readF (x := ba l) (by rw [size_ba]; omega)
          rw [r1, r2]
          simp only [Option.bind_some]
          have hsm : f.length ≤ 10000000 ∧ (∀ x ∈ f, x.2.2.1.2.2.1.size ≤ 9223372036854775807) ∧ ∀ x ∈ f, x.2.2.2.2.2.1.length ≤ 10000000 := by
            cases b with
            | false => rw [r4 rfl]; simp
            | true =>
              have ho := r3 rfl
              have hs : okAll f = true := by
                unfold okAll
                rw [List.all_eq_true]
                intro y hy
                obtain ⟨i, hi⟩ := List.getElem?_of_mem hy
                exact (okF_stands ho i y hi).1
              have ho' := ho
              unfold okF at ho'
              rw [Bool.and_eq_true] at ho'
              have := inB_iff.1 ho'.1
              exact ⟨by omega, sm_s (smOf hs), sm_k (smOf hs)⟩
          obtain ⟨t, t1, t2, t3⟩ := formulaText_ok hsm.1 hsm.2.1 hsm.2.2
          rw [t2, isourceOf_eq, t1]
          simp only [Option.bind_some]
          rw [show (⟨#[61]⟩ : ByteArray) = ba [61] from rfl, cats_ba (by simp only [List.length_singleton]; omega), e0, size_ba]
          cases b with
          | false =>
            simp only [Bool.not_false, if_true]
            refine ⟨[], false, ?_, rfl, by simp⟩
            by_cases ht : t = [] <;> simp [ht]
          | true =>
            simp only [Bool.not_true, Bool.false_eq_true, if_false]
            by_cases ht : t = []
            · refine ⟨[], false, ?_, ?_, by simp⟩ <;> simp [ht]
            · rw [wr (by omega) (by omega)]
              by_cases h2 : t.length < 200
              · refine ⟨61 :: t, true, ?_, ?_, by rw [List.length_cons]; omega⟩
                · rw [decide_eq_false ht, decide_eq_true (show (t.length : Int) < 200 by omega)]
                  rfl
                · rw [ifF ht, ifF (by omega), cats_ba (by simp only [List.length_singleton]; omega)]
                  rfl
              · refine ⟨[], false, ?_, ?_, by simp⟩
                · rw [decide_eq_false ht, decide_eq_false (show ¬ (t.length : Int) < 200 by omega)]
                  rfl
                · rw [ifF ht, ifT (by omega)]
        · have hnc : ¬ (some c = some (61 : UInt8)) := by simpa using hc
          simp only [List.head?_cons, hnc, decide_false, Bool.false_eq_true, if_false, hc]
          generalize hwd : (c :: l : Bys) = w at *
          have hsz : (ba w).size = w.length := size_ba w
          rw [parseInt_ok (by omega)]
          obtain ⟨v, n1, n2⟩ := sl5Number_ok hw (by omega)
          rw [n1, iisDigits_ok (by omega), iReadValue_ok (by omega), sReadValue_ok (by omega)]
          simp only [Option.bind_some, inumber_ok]
          rw [iValueOk_ok (by show eS.size ≤ _; decide)]
          simp only [Option.bind_some]
          have tail : ∃ (t : Bys) (b : Bool), (if (rdVal w).2 = true then (some ((ba w, true, ()), (())) : Option ((ByteArray × Bool × Unit) × Unit)) else (if ((ByteArray.size (ba w) : Int) == 200) = true then (some (((⟨#[]⟩ : ByteArray), false, ()), (()))) else (cats (⟨#[39]⟩ : ByteArray) (ba w) fun y2 => (some ((y2, true, ()), (())))))) = some ((ba t, b, ()), ())
              ∧ (if (!(rdVal w).2) = true then ((sValueText (2, 0, ba w, ())).bind fun z7 => (if (decide ((ByteArray.size z7.1.1 : Int) > 200)) = true then (some (((⟨#[]⟩ : ByteArray), false, ()), (()))) else (some ((z7.1.1, true, ()), (()))))) else ((sValueText (rdVal w).1).bind fun z8 => (if (decide ((ByteArray.size z8.1.1 : Int) > 200)) = true then (some (((⟨#[]⟩ : ByteArray), false, ()), (()))) else (some ((z8.1.1, true, ()), (())))))) = some ((ba t, b, ()), ()) ∧ t.length ≤ 200 := by
            cases hr : (rdVal w).2 with
            | true =>
              obtain ⟨k1, k2⟩ := rdVal_ok hr
              refine ⟨w, true, rfl, ?_, hl⟩
              simp only [Bool.not_true, Bool.false_eq_true, if_false]
              rw [sValueText_ok (okVal_big k1), if_pos k1, k2]
              simp only [Option.bind_some]
              rw [ifF (by rw [hsz]; omega)]
            | false =>
              simp only [Bool.not_false, Bool.false_eq_true, if_false, if_true]
              have hov : okVal (2, 0, ba w, ()) = true := by
                unfold okVal
                rw [if_pos rfl]
                simp only [decide_true, Bool.true_and]
                exact hp
              have htx : valT (2, 0, ba w, ()) = ba (39 :: w) := by
                show (⟨#[39]⟩ : ByteArray) ++ ba w = _
                rw [show (⟨#[39]⟩ : ByteArray) = ba [39] from rfl, ba_app]
                rfl
              rw [sValueText_ok (okVal_big hov), if_pos hov, htx, cat39 (by omega), show (⟨#[39]⟩ : ByteArray) = ba [39] from rfl, ba_app]
              simp only [Option.bind_some, size_ba, List.length_cons]
              by_cases h2 : w.length = 200
              · rw [if_pos (by simp [h2]), ifT (by omega)]
                exact ⟨[], false, rfl, rfl, by simp⟩
              · rw [if_neg (by simp only [beq_iff_eq]; omega), ifF (by omega)]
                exact ⟨39 :: w, true, rfl, rfl, by rw [List.length_cons]; omega⟩
          cases ho : okNum w with
          | true =>
            have hpv := parse_okNum ho
            have hrg := numI_range ho
            have hdg : (decide (mgB w ≠ []) && (mgB w).all dgB) = true := by
              unfold okNum okDig at ho
              simp only [Bool.and_eq_true] at ho ⊢
              exact ⟨ho.1, ho.2.1⟩
            have hok : okVal (vN (numI w)) = true := by
              rw [okVN]
              exact inB_iff.2 hrg
            have hit := itoaB_size (n := numI w) (by omega) (by omega)
            rw [n2 ho, hpv, hdg]
            simp only [if_true, hok]
            rw [idecimal_ok (by omega) (by omega), sValueText_ok (okVal_big hok), if_pos hok]
            refine ⟨lb (itoaB (numI w)), true, ?_, ?_, by rw [size_lb]; omega⟩
            · rw [ba_lb]; rfl
            · rw [ba_lb]; rfl
          | false =>
            obtain ⟨t, b, s1, s2, s3⟩ := tail
            refine ⟨t, b, ?_, ?_, s3⟩
            · cases h1 : (parseV w).2 with
              | false => simpa using s1
              | true =>
                cases h2 : (decide (mgB w ≠ []) && (mgB w).all dgB) with
                | false => simpa using s1
                | true =>
                  rw [num_no ho h1 h2]
                  simpa using s1
            · simpa using s2
end Go.Proofs.YtbkcnfbjigjgdaaGreatDoor.Abs
/- Plain laws: right sheets: what both sides ask is one thing. -/
set_option linter.unusedVariables false
set_option linter.unusedSimpArgs false
set_option linter.unusedSectionVars false
namespace Go.Proofs.YtbkcnfbjigjgdaaGreatDoor.Abs
open Go

/-- What both make of what is typed. -/
noncomputable def inpV (x : ByteArray) : ByteArray × Bool := if h : x.size ≤ 9223372036854775807 then (ba (inputOf_ok h).choose, (inputOf_ok h).choose_spec.choose) else (eS, false)
theorem inp_ok {x : ByteArray} (h : x.size ≤ 9223372036854775807) : iInputOf x = some (((inpV x).1, (inpV x).2, ()), ()) ∧ sInputOf x = some (((inpV x).1, (inpV x).2, ()), ()) ∧ (inpV x).1.size ≤ 200 := by
  have hs := (inputOf_ok h).choose_spec.choose_spec
  unfold inpV
  rw [dif_pos h]
  exact ⟨hs.1, hs.2.1, by rw [size_ba]; exact hs.2.2⟩
/-- Is it the source of a cell? -/
noncomputable def srcOk (x : ByteArray) : Bool := (inpV x).2 && !decide (x = eS) && decide ((inpV x).1 = x)
theorem iisSource_ok {x : ByteArray} (h : x.size ≤ 9223372036854775807) : iisSource x = some ((srcOk x, ()), ()) := by
  rw [iisSource_eq, (inp_ok h).1]
  simp only [Option.bind_some, eqS]
  unfold srcOk
  cases (inpV x).2 <;> by_cases hx : x = eS <;> simp [hx]
def aheadB (a b : dRef) : Bool := decide (a.2.1 < b.2.1) || (decide (a.2.1 = b.2.1) && decide (a.1 < b.1))
theorem sl1Ahead_ok (a b : dRef) : sl1Ahead a b = some ((aheadB a b, ()), ()) := by
  rw [sl1Ahead_eq]
  unfold aheadB
  by_cases h1 : a.2.1 < b.2.1
  · simp [h1]
  · by_cases h2 : a.2.1 = b.2.1 <;> simp [h1, h2]
theorem icompareRefs_ok (a b : dRef) : ∃ k : Int, icompareRefs a b = some ((k, ()), ()) ∧ (k < 0 ↔ aheadB a b = true) := by
  rw [icompareRefs_eq, cmpInt_ok, cmpInt_ok]
  simp only [Option.bind_some]
  rw [cmpOr_ok (by simp)]
  refine ⟨_, rfl, ?_⟩
  unfold aheadB
  by_cases h1 : a.2.1 < b.2.1
  · simp [cmpI, h1]
  · by_cases h2 : b.2.1 < a.2.1
    · have h3 : ¬ a.2.1 = b.2.1 := by omega
      simp [cmpI, h1, h2, h3]
    · have h3 : a.2.1 = b.2.1 := by omega
      by_cases h4 : a.1 < b.1
      · simp [cmpI, h1, h2, h3, h4]
      · by_cases h5 : b.1 < a.1
        · simp [cmpI, h1, h2, h3, h4, h5]
        · simp [cmpI, h1, h2, h3, h4, h5]
/-- Cells behind another one. -/
noncomputable def shB : Option dCell → List dCell → Bool
  | _, [] => true
  | o, c :: l => okRef c.1 && srcOk c.2.1 && (match o with | none => true | some p => aheadB p.1 c.1) && shB (some c) l
noncomputable def okSheet (s : List dCell) : Bool := shB none s && decide (s.length ≤ 120)
section
variable {s : List dCell} (hs : ∀ c ∈ s, c.2.1.size ≤ 9223372036854775807) (hl : s.length ≤ 1000000000)
include hs hl
theorem iSheetOk_loop : ∀ (ys pre : List dCell), s = pre ++ ys → iSheetOk_p2 s s (s.length : Int) (pre.length : Int) = some ((shB pre.getLast? ys && decide (s.length ≤ 120), ()), ())
  | [], pre, h => by
    rw [iSheetOk_p2_eq, ifF (nlt_at h)]
    simp only [shB, Bool.true_and]
    congr 3
    rw [Bool.eq_iff_iff, decide_eq_true_eq, decide_eq_true_eq]
    omega
  | y :: ys, pre, h => by
    have hy := hs y (by rw [h]; simp)
    have ih := iSheetOk_loop ys (pre ++ [y]) (next_at h)
    rw [List.getLast?_append] at ih
    simp only [List.getLast?_singleton, Option.or_some, Option.some_or] at ih
    rw [iSheetOk_p2_eq, ifT (lt_at h), ix_at h, iRefOk_ok]
    simp only [Option.bind_some, shB]
    cases hr : okRef y.1 with
    | false => simp
    | true =>
      simp only [Bool.not_true, Bool.false_eq_true, if_false, Bool.true_and]
      rcases List.eq_nil_or_concat pre with hp | ⟨q, z, hp⟩
      · subst hp
        rw [ifF (by simp), iisSource_ok hy]
        simp only [Option.bind_some, List.getLast?_nil, Bool.and_true]
        cases srcOk y.2.1 with
        | false => simp
        | true =>
          simp only [Bool.not_true, Bool.false_eq_true, if_false, Bool.true_and]
          rw [wrap_at (pre := []) h (by omega)]
          exact ih
      · rw [List.concat_eq_append] at hp
        subst hp
        have hz : s = q ++ z :: (y :: ys) := by rw [h]; simp
        have hql : ((q ++ [z]).length : Int) - 1 = (q.length : Int) := by simp
        have hqs : q.length < s.length := by rw [hz]; simp
        rw [ifT (by simp), hql, wr (by omega) (by omega), ix_at hz]
        obtain ⟨k, k1, k2⟩ := icompareRefs_ok z.1 y.1
        rw [k1]
        simp only [Option.bind_some, List.getLast?_append, List.getLast?_singleton, Option.some_or]
        by_cases hk : k < 0
        · rw [ifF (by omega), iisSource_ok hy, k2.1 hk]
          simp only [Option.bind_some, Bool.and_true]
          cases srcOk y.2.1 with
          | false => simp
          | true =>
            simp only [Bool.not_true, Bool.false_eq_true, if_false, Bool.true_and]
            rw [wrap_at h (by omega)]
            exact ih
        · have : aheadB z.1 y.1 = false := by
            rw [Bool.eq_false_iff]
            exact fun e => hk (k2.2 e)
          rw [ifT (by omega), this]
          simp
theorem iSheetOk_ok : iSheetOk s = some ((okSheet s, ()), ()) := by
  rw [iSheetOk_eq]
  exact iSheetOk_loop hs hl s [] rfl
end
end Go.Proofs.YtbkcnfbjigjgdaaGreatDoor.Abs
/- Plain laws: right sheets: the spec's side. -/
set_option linter.unusedVariables false
set_option linter.unusedSimpArgs false
set_option linter.unusedSectionVars false
namespace Go.Proofs.YtbkcnfbjigjgdaaGreatDoor.Abs
open Go

theorem sSource_eq {x : ByteArray} : srcOk x = ((inpV x).2 && !decide (x = eS) && decide ((inpV x).1 = x)) := rfl
section
variable {s : List dCell} (hs : ∀ c ∈ s, c.2.1.size ≤ 9223372036854775807) (hl : s.length ≤ 1000000000000)
include hs hl
theorem sSheetOk_loop : ∀ (ys pre : List dCell), s = pre ++ ys → sSheetOk_p4 s (pre.length : Int) = some ((shB pre.getLast? ys, ()), ())
  | [], pre, h => by
    rw [sSheetOk_p4_eq, ifF (nlt_at h)]
    simp only [shB]
  | y :: ys, pre, h => by
    have hy := hs y (by rw [h]; simp)
    have ih := sSheetOk_loop ys (pre ++ [y]) (next_at h)
    rw [List.getLast?_append] at ih
    simp only [List.getLast?_singleton, Option.or_some, Option.some_or] at ih
    rw [sSheetOk_p4_eq, ifT (lt_at h), ix_at h, (inp_ok hy).2.1]
    simp only [Option.bind_some]
    rw [ix_at h, sRefOk_ok]
    simp only [Option.bind_some, shB, ix_at h, eqS, sSource_eq]
    cases hr : okRef y.1 with
    | false => simp
    | true =>
      cases hi : (inpV y.2.1).2 with
      | false => simp
      | true =>
        by_cases he : y.2.1 = eS
        · simp [he]
        · by_cases hq : (inpV y.2.1).1 = y.2.1
          · rcases List.eq_nil_or_concat pre with hp | ⟨q, z, hp⟩
            · subst hp
              rw [wrap_at (pre := []) h (by omega)]
              simp [he, hq]
              exact ih
            · rw [List.concat_eq_append] at hp
              subst hp
              have hz : s = q ++ z :: (y :: ys) := by rw [h]; simp
              have hql : ((q ++ [z]).length : Int) - 1 = (q.length : Int) := by simp
              have hqs : q.length < s.length := by rw [hz]; simp
              rw [hql, wr (by omega) (by omega), ix_at hz, sl1Ahead_ok, wrap_at h (by omega)]
              simp only [Option.bind_some, List.getLast?_append, List.getLast?_singleton, Option.some_or]
              rw [ih]
              cases ha : aheadB z.1 y.1 <;> simp [he, hq]
          · simp [he, hq]
theorem sSheetOk_ok : sSheetOk s = some ((okSheet s, ()), ()) := by
  rw [sSheetOk_eq]
  by_cases h : s.length ≤ 120
  · rw [ifF (by simp; omega)]
    have := sSheetOk_loop hs hl s [] rfl
    simp only [List.length_nil, Int.ofNat_zero, List.getLast?_nil] at this
    rw [this]
    simp [okSheet, h]
  · rw [ifT (by simp; omega)]
    simp [okSheet, h]
end
end Go.Proofs.YtbkcnfbjigjgdaaGreatDoor.Abs
/- Plain laws: what lies at a place, on both sides. -/
set_option linter.unusedVariables false
set_option linter.unusedSimpArgs false
set_option linter.unusedSectionVars false
namespace Go.Proofs.YtbkcnfbjigjgdaaGreatDoor.Abs
open Go

theorem eqRg {a b : dRef} : (eqB tRef a b = true) = (a = b) := propext (eqB_iff rfl)
noncomputable def srcAt (r : dRef) : List dCell → ByteArray
  | [] => eS
  | c :: cs => if c.1 = r then c.2.1 else srcAt r cs
theorem isourceAt_loop {s : List dCell} {r : dRef} (hl : s.length ≤ 1000000000000) : ∀ (ys pre : List dCell), s = pre ++ ys → isourceAt_p2 s (s.length : Int) (pre.length : Int) r.1 r.2.1 = some ((srcAt r ys, ()), ())
  | [], pre, h => by
    rw [isourceAt_p2_eq, ifF (nlt_at h)]
    rfl
  | y :: ys, pre, h => by
    have ih := isourceAt_loop (r := r) hl ys (pre ++ [y]) (next_at h)
    rw [isourceAt_p2_eq, ifT (lt_at h), ix_at h, wrap_at h (by omega), ih]
    show (if eqB tRef y.1 r = true then _ else _) = _
    by_cases e : y.1 = r
    · rw [if_pos (by rw [eqRg]; exact e), srcAt, if_pos e]
    · rw [if_neg (by rw [eqRg]; exact e), srcAt, if_neg e]
theorem isourceAt_ok {s : List dCell} {r : dRef} (hl : s.length ≤ 1000000000000) : isourceAt s r = some ((srcAt r s, ()), ()) := by
  rw [isourceAt_eq]
  exact isourceAt_loop hl s [] rfl
theorem sl5At_loop {s : List dCell} {r : dRef} (hl : s.length ≤ 1000000000000) : ∀ (ys pre : List dCell), s = pre ++ ys → sl5At_p2 s (pre.length : Int) r.1 r.2.1 = some ((srcAt r ys, ()), ())
  | [], pre, h => by
    rw [sl5At_p2_eq, ifF (nlt_at h)]
    rfl
  | y :: ys, pre, h => by
    have ih := sl5At_loop (r := r) hl ys (pre ++ [y]) (next_at h)
    rw [sl5At_p2_eq, ifT (lt_at h), ix_at h, wrap_at h (by omega), ih]
    show (if eqB tRef y.1 r = true then _ else _) = _
    by_cases e : y.1 = r
    · rw [if_pos (by rw [eqRg]; exact e), ix_at h, srcAt, if_pos e]
    · rw [if_neg (by rw [eqRg]; exact e), srcAt, if_neg e]
theorem sl5At_ok {s : List dCell} {r : dRef} (hl : s.length ≤ 1000000000000) : sl5At s r = some ((srcAt r s, ()), ()) := by
  rw [sl5At_eq]
  exact sl5At_loop hl s [] rfl
end Go.Proofs.YtbkcnfbjigjgdaaGreatDoor.Abs
/- Plain laws: sheets as rows in order: what is taken out, what is put in, what lies at a place. -/
set_option linter.unusedVariables false
set_option linter.unusedSimpArgs false
set_option linter.unusedSectionVars false
namespace Go.Proofs.YtbkcnfbjigjgdaaGreatDoor.Abs
open Go

/-! ### Rows in a strict order -/
theorem pw_ext {α : Type} {lt : α → α → Bool} (hi : ∀ x, lt x x = false) (ht : ∀ x y z, lt x y = true → lt y z = true → lt x z = true) : ∀ {l m : List α}, (l.Pairwise fun a b => lt a b = true) → (m.Pairwise fun a b => lt a b = true) → (∀ x, x ∈ l ↔ x ∈ m) → l = m
  | [], [], _, _, _ => rfl
  | [], y :: m, _, _, h => by have := (h y).2 (by simp); cases this
  | x :: l, [], _, _, h => by have := (h x).1 (by simp); cases this
  | x :: l, y :: m, hl, hm, h => by
    rw [List.pairwise_cons] at hl hm
    have hxy : x = y := by
      rcases List.mem_cons.1 ((h x).1 (by simp)) with e | hx
      · exact e
      · rcases List.mem_cons.1 ((h y).2 (by simp)) with e | hy
        · exact e.symm
        · have := ht _ _ _ (hl.1 y hy) (hm.1 x hx)
          rw [hi] at this
          cases this
    subst hxy
    congr 1
    refine pw_ext hi ht hl.2 hm.2 fun z => ⟨fun hz => ?_, fun hz => ?_⟩
    · rcases List.mem_cons.1 ((h z).1 (List.mem_cons_of_mem _ hz)) with e | hz'
      · subst e
        have := hl.1 z hz
        rw [hi] at this
        cases this
      · exact hz'
    · rcases List.mem_cons.1 ((h z).2 (List.mem_cons_of_mem _ hz)) with e | hz'
      · subst e
        have := hm.1 z hz
        rw [hi] at this
        cases this
      · exact hz'
/-! ### Places -/
theorem ahead_iff {a b : dRef} : aheadB a b = true ↔ a.2.1 < b.2.1 ∨ (a.2.1 = b.2.1 ∧ a.1 < b.1) := by
  unfold aheadB
  simp
theorem ahead_irrefl (a : dRef) : aheadB a a = false := by
  rw [Bool.eq_false_iff]
  intro h
  have := ahead_iff.1 h
  omega
theorem ahead_trans {a b c : dRef} (h : aheadB a b = true) (k : aheadB b c = true) : aheadB a c = true := by
  have := ahead_iff.1 h
  have := ahead_iff.1 k
  rw [ahead_iff]
  omega
theorem ref_ext {a b : dRef} (h1 : a.1 = b.1) (h2 : a.2.1 = b.2.1) : a = b := Prod.ext h1 (Prod.ext h2 rfl)
theorem ahead_total (a b : dRef) : aheadB a b = true ∨ a = b ∨ aheadB b a = true := by
  rw [ahead_iff, ahead_iff]
  by_cases h : a = b
  · exact .inr (.inl h)
  · by_cases h2 : a.2.1 = b.2.1
    · have : a.1 ≠ b.1 := fun e => h (ref_ext e h2)
      omega
    · omega
theorem ahead_ne {a b : dRef} (h : aheadB a b = true) : a ≠ b := by
  rintro rfl
  rw [ahead_irrefl] at h
  cases h
theorem ahead_asymm {a b : dRef} (h : aheadB a b = true) : aheadB b a = false := by
  rw [Bool.eq_false_iff]
  intro k
  have := ahead_trans h k
  rw [ahead_irrefl] at this
  cases this
/-! ### Sheets in order -/
def SrtS (s : List dCell) : Prop := s.Pairwise fun a b => aheadB a.1 b.1 = true
theorem shB_iff : ∀ {s : List dCell} {o : Option dCell}, shB o s = true ↔ (∀ p, o = some p → ∀ c ∈ s, aheadB p.1 c.1 = true) ∧ SrtS s ∧ ∀ c ∈ s, okRef c.1 = true ∧ srcOk c.2.1 = true
  | [], o => by simp [shB, SrtS]
  | c :: l, o => by
    have ih := shB_iff (s := l) (o := some c)
    simp only [shB, Bool.and_eq_true, ih]
    constructor
    · rintro ⟨⟨⟨h1, h2⟩, h3⟩, h4, h5, h6⟩
      refine ⟨?_, List.pairwise_cons.2 ⟨fun d hd => h4 c rfl d hd, h5⟩, ?_⟩
      · rintro p rfl d hd
        have h3 : aheadB p.1 c.1 = true := h3
        rcases List.mem_cons.1 hd with rfl | hd
        · exact h3
        · exact ahead_trans h3 (h4 c rfl d hd)
      · intro d hd
        rcases List.mem_cons.1 hd with rfl | hd
        · exact ⟨h1, h2⟩
        · exact h6 d hd
    · rintro ⟨h1, h2, h3⟩
      have h2 := List.pairwise_cons.1 h2
      refine ⟨⟨h3 c (by simp), ?_⟩, ?_, h2.2, fun d hd => h3 d (List.mem_cons_of_mem _ hd)⟩
      · cases o with
        | none => rfl
        | some p => exact h1 p rfl c (by simp)
      · rintro p hp d hd
        cases hp
        exact h2.1 d hd
theorem okSheet_iff {s : List dCell} : okSheet s = true ↔ SrtS s ∧ (∀ c ∈ s, okRef c.1 = true ∧ srcOk c.2.1 = true) ∧ s.length ≤ 120 := by
  unfold okSheet
  rw [Bool.and_eq_true, shB_iff, decide_eq_true_eq]
  constructor
  · rintro ⟨⟨_, h1, h2⟩, h3⟩
    exact ⟨h1, h2, h3⟩
  · rintro ⟨h1, h2, h3⟩
    exact ⟨⟨(fun p hp => by cases hp), h1, h2⟩, h3⟩
theorem srcOk_iff {x : ByteArray} : srcOk x = true ↔ (inpV x).2 = true ∧ x ≠ eS ∧ (inpV x).1 = x := by
  unfold srcOk
  simp [Bool.and_eq_true, and_assoc]
theorem srcOk_ne {x : ByteArray} (h : srcOk x = true) : x ≠ eS := (srcOk_iff.1 h).2.1
theorem inpV_size (x : ByteArray) : (inpV x).1.size ≤ 200 := by
  by_cases h : x.size ≤ 9223372036854775807
  · exact (inp_ok h).2.2
  · unfold inpV
    rw [dif_neg h]
    decide
theorem srcOk_size {x : ByteArray} (h : srcOk x = true) : x.size ≤ 200 := by
  have := inpV_size x
  rw [(srcOk_iff.1 h).2.2] at this
  exact this
/-- A sheet without what lies at a place. -/
def delS (r : dRef) (s : List dCell) : List dCell := s.filter fun c => !decide (c.1 = r)
def insS (r : dRef) (x : ByteArray) : List dCell → List dCell
  | [] => [(r, x, ())]
  | c :: l => if aheadB c.1 r = true then c :: insS r x l else (r, x, ()) :: delS r (c :: l)
noncomputable def setS (s : List dCell) (r : dRef) (x : ByteArray) : List dCell := if x = eS then delS r s else insS r x s
theorem mem_del {r : dRef} {s : List dCell} {c : dCell} : c ∈ delS r s ↔ c ∈ s ∧ c.1 ≠ r := by simp [delS]
theorem del_srt {r : dRef} {s : List dCell} (h : SrtS s) : SrtS (delS r s) := List.Pairwise.filter _ h
theorem del_len (r : dRef) (s : List dCell) : (delS r s).length ≤ s.length := List.length_filter_le _ _
theorem del_id {r : dRef} {s : List dCell} (h : ∀ c ∈ s, c.1 ≠ r) : delS r s = s := by
  unfold delS
  rw [List.filter_eq_self]
  intro c hc
  simp [h c hc]
theorem del_cons_ne {r : dRef} {c : dCell} {l : List dCell} (h : c.1 ≠ r) : delS r (c :: l) = c :: delS r l := by simp [delS, h]
theorem del_cons_eq {r : dRef} {c : dCell} {l : List dCell} (h : c.1 = r) : delS r (c :: l) = delS r l := by simp [delS, h]
theorem ins_perm {r : dRef} {x : ByteArray} : ∀ s : List dCell, (insS r x s).Perm (delS r s ++ [(r, x, ())])
  | [] => by simp [insS, delS]
  | c :: l => by
    unfold insS
    by_cases h : aheadB c.1 r = true
    · rw [if_pos h, del_cons_ne (ahead_ne h)]
      exact (ins_perm l).cons c
    · rw [if_neg h]
      exact (List.perm_append_singleton _ _).symm
theorem mem_ins {r : dRef} {x : ByteArray} {s : List dCell} {c : dCell} : c ∈ insS r x s ↔ (c ∈ s ∧ c.1 ≠ r) ∨ c = (r, x, ()) := by
  rw [(ins_perm s).mem_iff, List.mem_append, mem_del, List.mem_singleton]
theorem ins_len (r : dRef) (x : ByteArray) (s : List dCell) : (insS r x s).length ≤ s.length + 1 := by
  rw [(ins_perm s).length_eq, List.length_append, List.length_singleton]
  have := del_len r s
  omega
theorem ins_srt {r : dRef} {x : ByteArray} : ∀ {s : List dCell}, SrtS s → SrtS (insS r x s)
  | [], _ => by simp [insS, SrtS]
  | c :: l, h => by
    have h' := List.pairwise_cons.1 h
    unfold insS
    by_cases k : aheadB c.1 r = true
    · rw [if_pos k]
      refine List.pairwise_cons.2 ⟨fun d hd => ?_, ins_srt h'.2⟩
      rcases mem_ins.1 hd with ⟨hd, _⟩ | rfl
      · exact h'.1 d hd
      · exact k
    · rw [if_neg k]
      refine List.pairwise_cons.2 ⟨fun d hd => ?_, del_srt h⟩
      obtain ⟨hd, hn⟩ := mem_del.1 hd
      show aheadB r d.1 = true
      rcases ahead_total c.1 r with e | e | e
      · exact absurd e k
      · rcases List.mem_cons.1 hd with rfl | hd
        · exact absurd e hn
        · rw [← e]
          exact h'.1 d hd
      · rcases List.mem_cons.1 hd with rfl | hd
        · exact e
        · exact ahead_trans e (h'.1 d hd)
theorem set_srt {r : dRef} {x : ByteArray} {s : List dCell} (h : SrtS s) : SrtS (setS s r x) := by
  unfold setS
  split
  · exact del_srt h
  · exact ins_srt h
theorem set_len (s : List dCell) (r : dRef) (x : ByteArray) : (setS s r x).length ≤ s.length + 1 := by
  unfold setS
  split
  · have := del_len r s
    omega
  · exact ins_len r x s
theorem mem_set {r : dRef} {x : ByteArray} {s : List dCell} {c : dCell} : c ∈ setS s r x ↔ (c ∈ s ∧ c.1 ≠ r) ∨ (x ≠ eS ∧ c = (r, x, ())) := by
  unfold setS
  by_cases h : x = eS
  · rw [if_pos h, mem_del]
    simp [h]
  · rw [if_neg h, mem_ins]
    simp [h]
/-! ### What lies at a place -/
theorem srcAt_no {q : dRef} : ∀ {s : List dCell}, (∀ c ∈ s, c.1 ≠ q) → srcAt q s = eS
  | [], _ => rfl
  | c :: l, h => by
    rw [srcAt, if_neg (h c (by simp))]
    exact srcAt_no fun d hd => h d (List.mem_cons_of_mem _ hd)
theorem srcAt_mem : ∀ {s : List dCell} {c : dCell}, SrtS s → c ∈ s → srcAt c.1 s = c.2.1
  | d :: l, c, h, hc => by
    have h' := List.pairwise_cons.1 h
    rw [srcAt]
    rcases List.mem_cons.1 hc with rfl | hc
    · rw [if_pos rfl]
    · rw [if_neg (ahead_ne (h'.1 c hc))]
      exact srcAt_mem h'.2 hc
theorem srcAt_or {q : dRef} {s : List dCell} (h : SrtS s) : (∃ c ∈ s, c.1 = q ∧ c.2.1 = srcAt q s) ∨ ((∀ c ∈ s, c.1 ≠ q) ∧ srcAt q s = eS) := by
  by_cases k : ∃ c ∈ s, c.1 = q
  · obtain ⟨c, hc, rfl⟩ := k
    exact .inl ⟨c, hc, rfl, (srcAt_mem h hc).symm⟩
  · have k' : ∀ c ∈ s, c.1 ≠ q := fun c hc e => k ⟨c, hc, e⟩
    exact .inr ⟨k', srcAt_no k'⟩
theorem srcAt_set {q r : dRef} {x : ByteArray} {s : List dCell} (h : SrtS s) : srcAt q (setS s r x) = if q = r then x else srcAt q s := by
  have hs := set_srt (r := r) (x := x) h
  by_cases e : q = r
  · subst e
    rw [if_pos rfl]
    by_cases hx : x = eS
    · rw [srcAt_no, hx]
      intro c hc
      rcases mem_set.1 hc with ⟨_, hn⟩ | ⟨hn, _⟩
      · exact hn
      · exact absurd hx hn
    · exact srcAt_mem (c := (q, x, ())) hs (mem_set.2 (.inr ⟨hx, rfl⟩))
  · rw [if_neg e]
    rcases srcAt_or (q := q) h with ⟨c, hc, rfl, hv⟩ | ⟨hn, hv⟩
    · rw [srcAt_mem hs (mem_set.2 (.inl ⟨hc, e⟩)), hv]
    · rw [hv, srcAt_no]
      intro c hc
      rcases mem_set.1 hc with ⟨hc, _⟩ | ⟨_, rfl⟩
      · exact hn c hc
      · exact fun k => e k.symm
/-- Sheets in which the same lies at each place are one. -/
theorem sheet_ext {s t : List dCell} (hs : SrtS s) (ht : SrtS t) (ns : ∀ c ∈ s, c.2.1 ≠ eS) (nt : ∀ c ∈ t, c.2.1 ≠ eS) (h : ∀ q, srcAt q s = srcAt q t) : s = t := by
  refine pw_ext (lt := fun a b : dCell => aheadB a.1 b.1) (fun x => ahead_irrefl _) (fun x y z h k => ahead_trans h k) hs ht fun c => ⟨fun hc => ?_, fun hc => ?_⟩
  · have h1 := srcAt_mem hs hc
    rw [h] at h1
    rcases srcAt_or (q := c.1) ht with ⟨d, hd, e1, e2⟩ | ⟨_, e⟩
    · have : d = c := Prod.ext e1 (Prod.ext (e2.trans h1) rfl)
      rw [← this]
      exact hd
    · exact absurd (h1.symm.trans e) (ns c hc)
  · have h1 := srcAt_mem ht hc
    rw [← h] at h1
    rcases srcAt_or (q := c.1) hs with ⟨d, hd, e1, e2⟩ | ⟨_, e⟩
    · have : d = c := Prod.ext e1 (Prod.ext (e2.trans h1) rfl)
      rw [← this]
      exact hd
    · exact absurd (h1.symm.trans e) (nt c hc)
theorem set_ne {r : dRef} {x : ByteArray} {s : List dCell} (h : ∀ c ∈ s, c.2.1 ≠ eS) : ∀ c ∈ setS s r x, c.2.1 ≠ eS := by
  intro c hc
  rcases mem_set.1 hc with ⟨hc, _⟩ | ⟨hx, rfl⟩
  · exact h c hc
  · exact hx
theorem okSheet_ne {s : List dCell} (h : okSheet s = true) : ∀ c ∈ s, c.2.1 ≠ eS := fun c hc => srcOk_ne ((okSheet_iff.1 h).2.1 c hc).2
theorem okSheet_srt {s : List dCell} (h : okSheet s = true) : SrtS s := (okSheet_iff.1 h).1
theorem okSheet_len {s : List dCell} (h : okSheet s = true) : s.length ≤ 120 := (okSheet_iff.1 h).2.2
theorem okSheet_size {s : List dCell} (h : okSheet s = true) : ∀ c ∈ s, c.2.1.size ≤ 200 := fun c hc => srcOk_size ((okSheet_iff.1 h).2.1 c hc).2
theorem okSheet_set {s : List dCell} {r : dRef} {x : ByteArray} (h : okSheet s = true) (hr : okRef r = true) (hx : x ≠ eS → srcOk x = true) (hl : (setS s r x).length ≤ 120) : okSheet (setS s r x) = true := by
  rw [okSheet_iff] at h ⊢
  refine ⟨set_srt h.1, ?_, hl⟩
  intro c hc
  rcases mem_set.1 hc with ⟨hc, _⟩ | ⟨hn, rfl⟩
  · exact h.2.1 c hc
  · exact ⟨hr, hx hn⟩
end Go.Proofs.YtbkcnfbjigjgdaaGreatDoor.Abs
/- Plain laws: what two sheets differ in; what is merged: rows in order. -/
set_option linter.unusedVariables false
set_option linter.unusedSimpArgs false
set_option linter.unusedSectionVars false
namespace Go.Proofs.YtbkcnfbjigjgdaaGreatDoor.Abs
open Go

/-! ### Places in order, each once -/
def SrtR (l : List dRef) : Prop := l.Pairwise fun a b => aheadB a b = true
def insR (r : dRef) : List dRef → List dRef
  | [] => [r]
  | c :: l => if aheadB c r = true then c :: insR r l else if c = r then c :: l else r :: c :: l
def plcs (l : List dRef) : List dRef := l.foldr insR []
theorem mem_insR {r q : dRef} : ∀ {l : List dRef}, q ∈ insR r l ↔ q = r ∨ q ∈ l
  | [] => by simp [insR]
  | c :: l => by
    unfold insR
    by_cases h : aheadB c r = true
    · rw [if_pos h, List.mem_cons, mem_insR (l := l), List.mem_cons]
      constructor
      · rintro (h | h | h)
        · exact .inr (.inl h)
        · exact .inl h
        · exact .inr (.inr h)
      · rintro (h | h | h)
        · exact .inr (.inl h)
        · exact .inl h
        · exact .inr (.inr h)
    · rw [if_neg h]
      by_cases e : c = r
      · rw [if_pos e, List.mem_cons]
        constructor
        · rintro (h | h)
          · exact .inl (h.trans e)
          · exact .inr (.inr h)
        · rintro (h | h | h)
          · exact .inl (h.trans e.symm)
          · exact .inl h
          · exact .inr h
      · rw [if_neg e, List.mem_cons]
theorem insR_srt {r : dRef} : ∀ {l : List dRef}, SrtR l → SrtR (insR r l)
  | [], _ => by simp [insR, SrtR]
  | c :: l, h => by
    have h' := List.pairwise_cons.1 h
    unfold insR
    by_cases k : aheadB c r = true
    · rw [if_pos k]
      refine List.pairwise_cons.2 ⟨fun d hd => ?_, insR_srt h'.2⟩
      rcases mem_insR.1 hd with rfl | hd
      · exact k
      · exact h'.1 d hd
    · rw [if_neg k]
      by_cases e : c = r
      · rw [if_pos e]
        exact h
      · rw [if_neg e]
        have hr : aheadB r c = true := by
          rcases ahead_total c r with x | x | x
          · exact absurd x k
          · exact absurd x e
          · exact x
        refine List.pairwise_cons.2 ⟨fun d hd => ?_, h⟩
        rcases List.mem_cons.1 hd with rfl | hd
        · exact hr
        · exact ahead_trans hr (h'.1 d hd)
theorem plcs_srt : ∀ l : List dRef, SrtR (plcs l)
  | [] => List.Pairwise.nil
  | c :: l => insR_srt (plcs_srt l)
theorem mem_plcs {q : dRef} : ∀ {l : List dRef}, q ∈ plcs l ↔ q ∈ l
  | [] => Iff.rfl
  | c :: l => by
    show q ∈ insR c (plcs l) ↔ _
    rw [mem_insR, mem_plcs (l := l), List.mem_cons]
theorem srtR_ext {l m : List dRef} (hl : SrtR l) (hm : SrtR m) (h : ∀ q, q ∈ l ↔ q ∈ m) : l = m := pw_ext (lt := aheadB) ahead_irrefl (fun _ _ _ => ahead_trans) hl hm h
theorem plcs_len : ∀ l : List dRef, (plcs l).length ≤ l.length
  | [] => Nat.le_refl _
  | c :: l => by
    have ih := plcs_len l
    have : ∀ m : List dRef, (insR c m).length ≤ m.length + 1 := by
      intro m
      induction m with
      | nil => simp [insR]
      | cons d m ih =>
        unfold insR
        split
        · simp only [List.length_cons]
          omega
        · split
          · simp only [List.length_cons]
            omega
          · simp only [List.length_cons]
            omega
    have := this (plcs l)
    show (insR c (plcs l)).length ≤ _
    simp only [List.length_cons]
    omega
/-! ### What two sheets differ in -/
def SrtC (l : List dChange) : Prop := l.Pairwise fun a b => aheadB a.1 b.1 = true
def isCh (L M : List dCell) (c : dChange) : Prop := c.2.1 = srcAt c.1 L ∧ c.2.2.1 = srcAt c.1 M ∧ c.2.1 ≠ c.2.2.1
theorem srtC_ext {l m : List dChange} (hl : SrtC l) (hm : SrtC m) (h : ∀ q, q ∈ l ↔ q ∈ m) : l = m := pw_ext (lt := fun a b : dChange => aheadB a.1 b.1) (fun _ => ahead_irrefl _) (fun _ _ _ h k => ahead_trans h k) hl hm h
noncomputable def chg (a b : List dCell) (q : dRef) : dChange := (q, srcAt q a, srcAt q b, ())
noncomputable def refsOf (a : List dCell) : List dRef := a.map fun c => c.1
noncomputable def dfS (a b : List dCell) : List dChange := ((plcs (refsOf a ++ refsOf b)).map (chg a b)).filter fun c => !decide (c.2.1 = c.2.2.1)
theorem dfS_srt (a b : List dCell) : SrtC (dfS a b) := by
  refine List.Pairwise.filter _ ?_
  rw [List.pairwise_map]
  exact plcs_srt _
theorem mem_refs {a : List dCell} {q : dRef} : q ∈ refsOf a ↔ ∃ c ∈ a, c.1 = q := by simp [refsOf]
theorem refs_of_src {a : List dCell} {q : dRef} (h : srcAt q a ≠ eS) : q ∈ refsOf a := by
  rw [mem_refs]
  apply Classical.byContradiction
  intro hn
  exact h (srcAt_no fun c hc e => hn ⟨c, hc, e⟩)
theorem mem_dfS {a b : List dCell} {c : dChange} : c ∈ dfS a b ↔ isCh a b c := by
  unfold dfS isCh
  rw [List.mem_filter, List.mem_map]
  constructor
  · rintro ⟨⟨q, _, rfl⟩, h⟩
    exact ⟨rfl, rfl, by simpa using h⟩
  · rintro ⟨h1, h2, h3⟩
    refine ⟨⟨c.1, ?_, ?_⟩, by simpa using h3⟩
    · rw [mem_plcs, List.mem_append]
      by_cases e : srcAt c.1 a = eS
      · exact .inr (refs_of_src fun e2 => h3 (by rw [h1, h2, e, e2]))
      · exact .inl (refs_of_src e)
    · exact Prod.ext rfl (Prod.ext h1.symm (Prod.ext h2.symm rfl))
theorem dfS_len (a b : List dCell) : (dfS a b).length ≤ a.length + b.length := by
  unfold dfS
  refine Nat.le_trans (List.length_filter_le _ _) ?_
  rw [List.length_map]
  refine Nat.le_trans (plcs_len _) ?_
  simp [refsOf]
/-- A change put ahead, if it is one. -/
noncomputable def cC (c : dChange) (r : List dChange) : List dChange := if c.2.1 = c.2.2.1 then r else c :: r
theorem mem_cC {c d : dChange} {r : List dChange} : c ∈ cC d r ↔ (c = d ∧ d.2.1 ≠ d.2.2.1) ∨ c ∈ r := by
  unfold cC
  by_cases h : d.2.1 = d.2.2.1
  · rw [if_pos h]
    simp [h]
  · rw [if_neg h, List.mem_cons]
    simp [h]
theorem df_step {q : dRef} {f t : ByteArray} {L M L' M' : List dCell} {r : List dChange} (hf : srcAt q L = f) (ht : srcAt q M = t) (hL : ∀ p, p ≠ q → srcAt p L = srcAt p L') (hM : ∀ p, p ≠ q → srcAt p M = srcAt p M') (nL : srcAt q L' = eS) (nM : srcAt q M' = eS)
    (ih : ∀ c, c ∈ r ↔ isCh L' M' c) : ∀ c, c ∈ cC (q, f, t, ()) r ↔ isCh L M c := by
  intro c
  rw [mem_cC, ih]
  unfold isCh
  by_cases e : c.1 = q
  · rw [e, hf, ht, nL, nM]
    constructor
    · rintro (⟨rfl, h⟩ | ⟨h1, h2, h3⟩)
      · exact ⟨rfl, rfl, h⟩
      · exact absurd (h1.trans h2.symm) h3
    · rintro ⟨h1, h2, h3⟩
      refine .inl ⟨Prod.ext e (Prod.ext h1 (Prod.ext h2 rfl)), ?_⟩
      rw [h1, h2] at h3
      exact h3
  · rw [hL _ e, hM _ e]
    constructor
    · rintro (⟨rfl, h⟩ | h)
      · exact absurd rfl e
      · exact h
    · exact fun h => .inr h
theorem df_srt {q : dRef} {f t : ByteArray} {r : List dChange} (hr : SrtC r) (hq : ∀ c ∈ r, aheadB q c.1 = true) : SrtC (cC (q, f, t, ()) r) := by
  unfold cC
  split
  · exact hr
  · exact List.pairwise_cons.2 ⟨hq, hr⟩
/-- Two rows side by side. -/
noncomputable def dfM : List dCell → List dCell → List dChange
  | [], [] => []
  | a :: l, [] => cC (a.1, a.2.1, eS, ()) (dfM l [])
  | [], b :: m => cC (b.1, eS, b.2.1, ()) (dfM [] m)
  | a :: l, b :: m => if aheadB a.1 b.1 = true then cC (a.1, a.2.1, eS, ()) (dfM l (b :: m)) else if aheadB b.1 a.1 = true then cC (b.1, eS, b.2.1, ()) (dfM (a :: l) m) else cC (a.1, a.2.1, b.2.1, ()) (dfM l m)
termination_by l m => l.length + m.length
theorem srcAt_cons_ne {p : dRef} {a : dCell} {l : List dCell} (h : p ≠ a.1) : srcAt p (a :: l) = srcAt p l := by rw [srcAt, if_neg (fun e => h e.symm)]
theorem srcAt_cons_eq {a : dCell} {l : List dCell} : srcAt a.1 (a :: l) = a.2.1 := by rw [srcAt, if_pos rfl]
theorem srcAt_behind {q : dRef} {l : List dCell} (h : ∀ c ∈ l, aheadB q c.1 = true) : srcAt q l = eS := srcAt_no fun c hc e => by
  have := h c hc
  rw [e, ahead_irrefl] at this
  cases this
theorem isCh_mem {L M : List dCell} {c : dChange} (h : isCh L M c) : (∃ d ∈ L, d.1 = c.1) ∨ ∃ d ∈ M, d.1 = c.1 := by
  obtain ⟨h1, h2, h3⟩ := h
  by_cases e : srcAt c.1 L = eS
  · exact .inr (mem_refs.1 (refs_of_src fun e2 => h3 (by rw [h1, h2, e, e2])))
  · exact .inl (mem_refs.1 (refs_of_src e))
theorem dfM_ok : ∀ (l m : List dCell), SrtS l → SrtS m → SrtC (dfM l m) ∧ ∀ c, c ∈ dfM l m ↔ isCh l m c
  | [], [], _, _ => by
    unfold dfM
    refine ⟨List.Pairwise.nil, fun c => ⟨(fun h => by cases h), ?_⟩⟩
    rintro ⟨h1, h2, h3⟩
    exact absurd (h1.trans h2.symm) h3
  | a :: l, [], hl, hm => by
    have hl' := List.pairwise_cons.1 hl
    obtain ⟨i1, i2⟩ := dfM_ok l [] hl'.2 hm
    unfold dfM
    refine ⟨df_srt i1 fun c hc => ?_, df_step srcAt_cons_eq rfl (fun p hp => srcAt_cons_ne hp) (fun _ _ => rfl) (srcAt_behind hl'.1) rfl i2⟩
    rcases isCh_mem ((i2 c).1 hc) with ⟨d, hd, e⟩ | ⟨d, hd, e⟩
    · rw [← e]
      exact hl'.1 d hd
    · cases hd
  | [], b :: m, hl, hm => by
    have hm' := List.pairwise_cons.1 hm
    obtain ⟨i1, i2⟩ := dfM_ok [] m hl hm'.2
    unfold dfM
    refine ⟨df_srt i1 fun c hc => ?_, df_step rfl srcAt_cons_eq (fun _ _ => rfl) (fun p hp => srcAt_cons_ne hp) rfl (srcAt_behind hm'.1) i2⟩
    rcases isCh_mem ((i2 c).1 hc) with ⟨d, hd, e⟩ | ⟨d, hd, e⟩
    · cases hd
    · rw [← e]
      exact hm'.1 d hd
  | a :: l, b :: m, hl, hm => by
    have hl' := List.pairwise_cons.1 hl
    have hm' := List.pairwise_cons.1 hm
    unfold dfM
    by_cases h1 : aheadB a.1 b.1 = true
    · rw [if_pos h1]
      obtain ⟨i1, i2⟩ := dfM_ok l (b :: m) hl'.2 hm
      have hb : ∀ c ∈ b :: m, aheadB a.1 c.1 = true := by
        intro c hc
        rcases List.mem_cons.1 hc with rfl | hc
        · exact h1
        · exact ahead_trans h1 (hm'.1 c hc)
      refine ⟨df_srt i1 fun c hc => ?_, df_step srcAt_cons_eq (srcAt_behind hb) (fun p hp => srcAt_cons_ne hp) (fun _ _ => rfl) (srcAt_behind hl'.1) (srcAt_behind hb) i2⟩
      rcases isCh_mem ((i2 c).1 hc) with ⟨d, hd, e⟩ | ⟨d, hd, e⟩
      · rw [← e]
        exact hl'.1 d hd
      · rw [← e]
        exact hb d hd
    · rw [if_neg h1]
      by_cases h2 : aheadB b.1 a.1 = true
      · rw [if_pos h2]
        obtain ⟨i1, i2⟩ := dfM_ok (a :: l) m hl hm'.2
        have ha : ∀ c ∈ a :: l, aheadB b.1 c.1 = true := by
          intro c hc
          rcases List.mem_cons.1 hc with rfl | hc
          · exact h2
          · exact ahead_trans h2 (hl'.1 c hc)
        refine ⟨df_srt i1 fun c hc => ?_, df_step (srcAt_behind ha) srcAt_cons_eq (fun _ _ => rfl) (fun p hp => srcAt_cons_ne hp) (srcAt_behind ha) (srcAt_behind hm'.1) i2⟩
        rcases isCh_mem ((i2 c).1 hc) with ⟨d, hd, e⟩ | ⟨d, hd, e⟩
        · rw [← e]
          exact ha d hd
        · rw [← e]
          exact hm'.1 d hd
      · rw [if_neg h2]
        obtain ⟨i1, i2⟩ := dfM_ok l m hl'.2 hm'.2
        have e : a.1 = b.1 := by
          rcases ahead_total a.1 b.1 with h | h | h
          · exact absurd h h1
          · exact h
          · exact absurd h h2
        have hm'1 : ∀ c ∈ m, aheadB a.1 c.1 = true := by
          rw [e]
          exact hm'.1
        refine ⟨df_srt i1 fun c hc => ?_, df_step srcAt_cons_eq (by rw [e]; exact srcAt_cons_eq) (fun p hp => srcAt_cons_ne hp) (fun p hp => srcAt_cons_ne (by rw [← e]; exact hp)) (srcAt_behind hl'.1) (srcAt_behind hm'1) i2⟩
        rcases isCh_mem ((i2 c).1 hc) with ⟨d, hd, e'⟩ | ⟨d, hd, e'⟩
        · rw [← e']
          exact hl'.1 d hd
        · rw [← e']
          exact hm'1 d hd
termination_by l m => l.length + m.length
theorem dfM_eq {l m : List dCell} (hl : SrtS l) (hm : SrtS m) : dfM l m = dfS l m := by
  obtain ⟨h1, h2⟩ := dfM_ok l m hl hm
  exact srtC_ext h1 (dfS_srt _ _) fun c => by rw [h2, mem_dfS]
/-! ### What is merged -/
noncomputable def mrgV (o x y : List dCell) (q : dRef) : ByteArray := if srcAt q x = srcAt q o then srcAt q y else srcAt q x
noncomputable def clB (o x y : List dCell) (q : dRef) : Bool := !decide (srcAt q x = srcAt q o) && (!decide (srcAt q y = srcAt q o) && !decide (srcAt q x = srcAt q y))
noncomputable def allR (o x y : List dCell) : List dRef := plcs (refsOf o ++ (refsOf x ++ refsOf y))
noncomputable def cellV (q : dRef) (v : ByteArray) : List dCell := if v = eS then [] else [(q, v, ())]
noncomputable def mrgS (o x y : List dCell) : List dCell := (allR o x y).flatMap fun q => cellV q (mrgV o x y q)
noncomputable def clS (o x y : List dCell) : List dRef := (allR o x y).filter (clB o x y)
theorem mem_cellV {q : dRef} {v : ByteArray} {c : dCell} : c ∈ cellV q v ↔ c = (q, v, ()) ∧ v ≠ eS := by
  unfold cellV
  by_cases h : v = eS
  · rw [if_pos h]
    simp [h]
  · rw [if_neg h, List.mem_singleton]
    simp [h]
theorem cells_srt {f : dRef → ByteArray} : ∀ {l : List dRef}, SrtR l → SrtS (l.flatMap fun q => cellV q (f q))
  | [], _ => List.Pairwise.nil
  | r :: l, h => by
    have h' := List.pairwise_cons.1 h
    rw [List.flatMap_cons]
    refine List.pairwise_append.2 ⟨?_, cells_srt h'.2, ?_⟩
    · unfold cellV
      split
      · exact List.Pairwise.nil
      · exact List.pairwise_singleton _ _
    · intro a ha b hb
      obtain ⟨rfl, _⟩ := mem_cellV.1 ha
      obtain ⟨q, hq, hb⟩ := List.mem_flatMap.1 hb
      obtain ⟨rfl, _⟩ := mem_cellV.1 hb
      exact h'.1 q hq
theorem mrgS_srt (o x y : List dCell) : SrtS (mrgS o x y) := cells_srt (plcs_srt _)
theorem mem_mrgS {o x y : List dCell} {c : dCell} : c ∈ mrgS o x y ↔ c.1 ∈ allR o x y ∧ c.2.1 = mrgV o x y c.1 ∧ c.2.1 ≠ eS := by
  unfold mrgS
  rw [List.mem_flatMap]
  constructor
  · rintro ⟨q, hq, hc⟩
    obtain ⟨rfl, h⟩ := mem_cellV.1 hc
    exact ⟨hq, rfl, h⟩
  · rintro ⟨h1, h2, h3⟩
    refine ⟨c.1, h1, mem_cellV.2 ⟨Prod.ext rfl (Prod.ext h2 rfl), ?_⟩⟩
    rw [← h2]
    exact h3
theorem mem_allR {o x y : List dCell} {q : dRef} : q ∈ allR o x y ↔ q ∈ refsOf o ∨ q ∈ refsOf x ∨ q ∈ refsOf y := by
  unfold allR
  rw [mem_plcs, List.mem_append, List.mem_append]
theorem not_allR {o x y : List dCell} {q : dRef} (h : q ∉ allR o x y) : srcAt q o = eS ∧ srcAt q x = eS ∧ srcAt q y = eS := by
  rw [mem_allR] at h
  have k : ∀ {a : List dCell}, q ∉ refsOf a → srcAt q a = eS := fun hn => srcAt_no fun c hc e => hn (mem_refs.2 ⟨c, hc, e⟩)
  exact ⟨k fun e => h (.inl e), k fun e => h (.inr (.inl e)), k fun e => h (.inr (.inr e))⟩
theorem srcAt_mrgS (o x y : List dCell) (q : dRef) : srcAt q (mrgS o x y) = mrgV o x y q := by
  by_cases h : q ∈ allR o x y
  · by_cases e : mrgV o x y q = eS
    · rw [e, srcAt_no]
      intro c hc k
      obtain ⟨_, h2, h3⟩ := mem_mrgS.1 hc
      rw [h2, k] at h3
      exact h3 e
    · exact srcAt_mem (c := (q, mrgV o x y q, ())) (mrgS_srt o x y) (mem_mrgS.2 ⟨h, rfl, e⟩)
  · obtain ⟨h1, h2, h3⟩ := not_allR h
    rw [srcAt_no fun c hc k => h (by have := (mem_mrgS.1 hc).1; rw [k] at this; exact this)]
    unfold mrgV
    rw [h1, h2, if_pos rfl, h3]
theorem mrgS_ne (o x y : List dCell) : ∀ c ∈ mrgS o x y, c.2.1 ≠ eS := fun c hc => (mem_mrgS.1 hc).2.2
theorem clS_srt (o x y : List dCell) : SrtR (clS o x y) := List.Pairwise.filter _ (plcs_srt _)
theorem clB_iff {o x y : List dCell} {q : dRef} : clB o x y q = true ↔ srcAt q x ≠ srcAt q o ∧ srcAt q y ≠ srcAt q o ∧ srcAt q x ≠ srcAt q y := by
  unfold clB
  simp
theorem mem_clS {o x y : List dCell} {q : dRef} : q ∈ clS o x y ↔ clB o x y q = true := by
  unfold clS
  rw [List.mem_filter]
  refine ⟨fun h => h.2, fun h => ⟨?_, h⟩⟩
  apply Classical.byContradiction
  intro hn
  obtain ⟨h1, h2, h3⟩ := not_allR hn
  obtain ⟨k, _⟩ := clB_iff.1 h
  exact k (h2.trans h1.symm)
/-- One change, on the one side. -/
noncomputable def mstep (x : List dCell) (p : List dCell × List dRef) (c : dChange) : List dCell × List dRef :=
  if srcAt c.1 x = c.2.1 then (setS p.1 c.1 c.2.2.1, p.2) else if srcAt c.1 x = c.2.2.1 then p else (p.1, p.2 ++ [c.1])
theorem msteps_ok {o x y : List dCell} (hx : SrtS x) (hx0 : ∀ c ∈ x, c.2.1 ≠ eS) : ∀ (ys pre : List dChange), dfS o y = pre ++ ys → ∀ p : List dCell × List dRef, SrtS p.1 → (∀ c ∈ p.1, c.2.1 ≠ eS) → p.2 = (pre.filter fun c => clB o x y c.1).map (fun c => c.1) →
    (∀ q, srcAt q p.1 = if (∃ c ∈ pre, c.1 = q ∧ srcAt q x = c.2.1) then srcAt q y else srcAt q x) → (ys.foldl (mstep x) p) = (mrgS o x y, clS o x y)
  | [], pre, he, p, h1, h2, h3, h4 => by
    rw [List.append_nil] at he
    subst he
    refine Prod.ext (sheet_ext h1 (mrgS_srt o x y) h2 (mrgS_ne o x y) fun q => ?_) ?_
    · show srcAt q p.1 = _
      rw [h4, srcAt_mrgS]
      unfold mrgV
      by_cases e : srcAt q x = srcAt q o
      · rw [if_pos e]
        by_cases k : srcAt q o = srcAt q y
        · split
          · rfl
          · rw [e, k]
        · rw [if_pos]
          exact ⟨(q, srcAt q o, srcAt q y, ()), mem_dfS.2 ⟨rfl, rfl, k⟩, rfl, e⟩
      · rw [if_neg e, if_neg]
        rintro ⟨c, hc, rfl, hq⟩
        obtain ⟨g1, _, _⟩ := mem_dfS.1 hc
        exact e (hq.trans g1)
    · show p.2 = _
      rw [h3]
      refine srtR_ext ?_ (clS_srt o x y) fun q => ?_
      · unfold SrtR
        rw [List.pairwise_map]
        exact List.Pairwise.filter _ (dfS_srt o y)
      · rw [mem_clS, List.mem_map]
        constructor
        · rintro ⟨c, hc, rfl⟩
          exact (List.mem_filter.1 hc).2
        · intro hq
          obtain ⟨k1, k2, k3⟩ := clB_iff.1 hq
          exact ⟨(q, srcAt q o, srcAt q y, ()), List.mem_filter.2 ⟨mem_dfS.2 ⟨rfl, rfl, fun e => k2 e.symm⟩, hq⟩, rfl⟩
  | c :: ys, pre, he, p, h1, h2, h3, h4 => by
    have hc : isCh o y c := mem_dfS.1 (by rw [he]; simp)
    obtain ⟨g1, g2, g3⟩ := hc
    rw [List.foldl_cons]
    have hnew : ∀ d ∈ pre, d.1 ≠ c.1 := by
      intro d hd e
      have := dfS_srt o y
      rw [he] at this
      have := (List.pairwise_append.1 this).2.2 d hd c (by simp)
      rw [e, ahead_irrefl] at this
      cases this
    refine msteps_ok hx hx0 ys (pre ++ [c]) (next_at he) _ ?_ ?_ ?_ ?_
    · unfold mstep
      split
      · exact set_srt h1
      · split <;> exact h1
    · unfold mstep
      split
      · exact set_ne h2
      · split <;> exact h2
    · rw [List.filter_append, List.map_append, ← h3]
      unfold mstep
      have hb : clB o x y c.1 = true ↔ ¬ srcAt c.1 x = c.2.1 ∧ ¬ srcAt c.1 x = c.2.2.1 := by
        rw [clB_iff, g1, g2]
        refine ⟨fun ⟨a, b, d⟩ => ⟨a, d⟩, fun ⟨a, d⟩ => ⟨a, ?_, d⟩⟩
        rw [g1, g2] at g3
        exact fun e => g3 e.symm
      by_cases e1 : srcAt c.1 x = c.2.1
      · rw [if_pos e1, List.filter_cons_of_neg (by rw [hb]; exact fun h => h.1 e1)]
        simp
      · rw [if_neg e1]
        by_cases e2 : srcAt c.1 x = c.2.2.1
        · rw [if_pos e2, List.filter_cons_of_neg (by rw [hb]; exact fun h => h.2 e2)]
          simp
        · rw [if_neg e2, List.filter_cons_of_pos (by rw [hb]; exact ⟨e1, e2⟩)]
          simp
    · intro q
      have hex : (∃ d ∈ pre ++ [c], d.1 = q ∧ srcAt q x = d.2.1) ↔ (∃ d ∈ pre, d.1 = q ∧ srcAt q x = d.2.1) ∨ (c.1 = q ∧ srcAt q x = c.2.1) := by
        constructor
        · rintro ⟨d, hd, k⟩
          rcases List.mem_append.1 hd with hd | hd
          · exact .inl ⟨d, hd, k⟩
          · rw [List.mem_singleton] at hd
            subst hd
            exact .inr k
        · rintro (⟨d, hd, k⟩ | k)
          · exact ⟨d, List.mem_append_left _ hd, k⟩
          · exact ⟨c, by simp, k⟩
      unfold mstep
      by_cases e1 : srcAt c.1 x = c.2.1
      · rw [if_pos e1]
        show srcAt q (setS p.1 c.1 c.2.2.1) = _
        rw [srcAt_set h1]
        by_cases eq : q = c.1
        · rw [if_pos eq, if_pos (hex.2 (.inr ⟨eq.symm, by rw [eq]; exact e1⟩)), g2, eq]
        · rw [if_neg eq, h4]
          have : (∃ d ∈ pre ++ [c], d.1 = q ∧ srcAt q x = d.2.1) ↔ ∃ d ∈ pre, d.1 = q ∧ srcAt q x = d.2.1 := by
            rw [hex]
            exact ⟨fun h => h.elim id fun k => absurd k.1.symm eq, .inl⟩
          simp only [this]
      · have hp : (if srcAt c.1 x = c.2.1 then (setS p.1 c.1 c.2.2.1, p.2) else if srcAt c.1 x = c.2.2.1 then p else (p.1, p.2 ++ [c.1])).1 = p.1 := by
          rw [if_neg e1]
          split <;> rfl
        rw [hp, h4]
        have : (∃ d ∈ pre ++ [c], d.1 = q ∧ srcAt q x = d.2.1) ↔ ∃ d ∈ pre, d.1 = q ∧ srcAt q x = d.2.1 := by
          rw [hex]
          refine ⟨fun h => h.elim id fun k => absurd ?_ e1, .inl⟩
          obtain ⟨k1, k2⟩ := k
          rw [k1]
          exact k2
        simp only [this]
theorem merge_ok {o x y : List dCell} (hx : SrtS x) (hx0 : ∀ c ∈ x, c.2.1 ≠ eS) : (dfS o y).foldl (mstep x) (x, []) = (mrgS o x y, clS o x y) :=
  msteps_ok hx hx0 (dfS o y) [] rfl (x, []) hx hx0 rfl (fun q => by rw [if_neg (by rintro ⟨_, h, _⟩; cases h)])
end Go.Proofs.YtbkcnfbjigjgdaaGreatDoor.Abs
/- Plain laws: changes that are laid on a sheet. -/
set_option linter.unusedVariables false
set_option linter.unusedSimpArgs false
set_option linter.unusedSectionVars false
namespace Go.Proofs.YtbkcnfbjigjgdaaGreatDoor.Abs
open Go

/-- A sheet, but for its length. -/
def OkL (s : List dCell) : Prop := SrtS s ∧ ∀ c ∈ s, okRef c.1 = true ∧ srcOk c.2.1 = true
theorem okL_of {s : List dCell} (h : okSheet s = true) : OkL s := ⟨(okSheet_iff.1 h).1, (okSheet_iff.1 h).2.1⟩
theorem okL_to {s : List dCell} (h : OkL s) (hl : s.length ≤ 120) : okSheet s = true := okSheet_iff.2 ⟨h.1, h.2, hl⟩
theorem okL_ne {s : List dCell} (h : OkL s) : ∀ c ∈ s, c.2.1 ≠ eS := fun c hc => srcOk_ne (h.2 c hc).2
theorem okL_size {s : List dCell} (h : OkL s) : ∀ c ∈ s, c.2.1.size ≤ 200 := fun c hc => srcOk_size (h.2 c hc).2
theorem okL_set {s : List dCell} {r : dRef} {x : ByteArray} (h : OkL s) (hr : okRef r = true) (hx : x ≠ eS → srcOk x = true) : OkL (setS s r x) := by
  refine ⟨set_srt h.1, ?_⟩
  intro c hc
  rcases mem_set.1 hc with ⟨hc, _⟩ | ⟨hn, rfl⟩
  · exact h.2 c hc
  · exact ⟨hr, hx hn⟩
theorem okL_src {s : List dCell} {q : dRef} (h : OkL s) (k : srcAt q s ≠ eS) : okRef q = true ∧ srcOk (srcAt q s) = true := by
  rcases srcAt_or (q := q) h.1 with ⟨c, hc, rfl, hv⟩ | ⟨_, e⟩
  · rw [← hv]
    exact h.2 c hc
  · exact absurd e k
/-- May this stand at a place? -/
noncomputable def toOk (x : ByteArray) : Bool := decide (x = eS) || srcOk x
theorem toOk_iff {x : ByteArray} : toOk x = true ↔ (x ≠ eS → srcOk x = true) := by
  unfold toOk
  by_cases h : x = eS <;> simp [h]
noncomputable def ptF : List dCell → List dChange → Option (List dCell)
  | s, [] => some s
  | s, c :: l => if okRef c.1 = true ∧ toOk c.2.2.1 = true ∧ srcAt c.1 s = c.2.1 then ptF (setS s c.1 c.2.2.1) l else none
noncomputable def ptEnd : Option (List dCell) → List dCell × Bool
  | some n => if n.length ≤ 120 then (n, true) else ([], false)
  | none => ([], false)
noncomputable def ptR (s : List dCell) (l : List dChange) : List dCell × Bool := if okSheet s = true ∧ l.length ≤ 360 then ptEnd (ptF s l) else ([], false)
theorem ptF_keep : ∀ {l : List dChange} {s n : List dCell}, OkL s → ptF s l = some n → OkL n
  | [], s, n, h, k => by
    cases k
    exact h
  | c :: l, s, n, h, k => by
    unfold ptF at k
    split at k
    · rename_i hc
      exact ptF_keep (okL_set h hc.1 (toOk_iff.1 hc.2.1)) k
    · cases k
theorem ptF_len : ∀ {l : List dChange} {s n : List dCell}, ptF s l = some n → n.length ≤ s.length + l.length
  | [], s, n, k => by
    cases k
    exact Nat.le_refl _
  | c :: l, s, n, k => by
    unfold ptF at k
    split at k
    · have := ptF_len k
      have := set_len s c.1 c.2.2.1
      simp only [List.length_cons]
      omega
    · cases k
theorem ptF_last : ∀ {l : List dChange} {c : dChange} {s n : List dCell}, OkL s → ptF s (l ++ [c]) = some n → srcAt c.1 n = c.2.2.1
  | [], c, s, n, h, k => by
    simp only [List.nil_append, ptF] at k
    split at k
    · rename_i hc
      cases k
      rw [srcAt_set h.1, if_pos rfl]
    · cases k
  | d :: l, c, s, n, h, k => by
    rw [List.cons_append] at k
    unfold ptF at k
    split at k
    · rename_i hc
      exact ptF_last (okL_set h hc.1 (toOk_iff.1 hc.2.1)) k
    · cases k
theorem ptR_ok {s n : List dCell} {l : List dChange} (h : ptR s l = (n, true)) : okSheet s = true ∧ okSheet n = true ∧ ptF s l = some n := by
  unfold ptR at h
  split at h
  · rename_i h1
    cases hm : ptF s l with
    | none =>
      rw [hm] at h
      cases h
    | some m =>
      rw [hm] at h
      simp only [ptEnd] at h
      split at h
      · rename_i hl
        cases h
        exact ⟨h1.1, okL_to (ptF_keep (okL_of h1.1) hm) hl, rfl⟩
      · cases h
  · cases h
theorem ptR_no {s n : List dCell} {l : List dChange} (h : ptR s l = (n, false)) : n = [] := by
  unfold ptR ptEnd at h
  split at h
  · split at h
    · split at h
      · cases h
      · cases h
        rfl
    · cases h
      rfl
  · cases h
    rfl
theorem ptR_size (s : List dCell) (l : List dChange) : (ptR s l).1.length ≤ 120 ∧ ∀ c ∈ (ptR s l).1, c.2.1.size ≤ 200 := by
  rcases hp : ptR s l with ⟨n, b⟩
  cases b with
  | false =>
    rw [ptR_no hp]
    exact ⟨Nat.zero_le _, fun c hc => by cases hc⟩
  | true =>
    obtain ⟨_, h, _⟩ := ptR_ok hp
    exact ⟨okSheet_len h, okSheet_size h⟩
/-- All that two sheets differ in, each place once, in whatever order: the one becomes the other. -/
theorem ptF_all {a b : List dCell} (ha : OkL a) (hb : OkL b) : ∀ (ys pre : List dChange) (s : List dCell), (∀ c, c ∈ pre ++ ys ↔ isCh a b c) → ((pre ++ ys).Pairwise fun c d => c.1 ≠ d.1) → OkL s → (∀ q, srcAt q s = if ∃ c ∈ pre, c.1 = q then srcAt q b else srcAt q a) → ptF s ys = some b
  | [], pre, s, hm, hp, hs, hv => by
    unfold ptF
    congr 1
    refine sheet_ext hs.1 hb.1 (okL_ne hs) (okL_ne hb) fun q => ?_
    rw [hv]
    split
    · rfl
    · rename_i hn
      apply Classical.byContradiction
      intro hne
      have := (hm (q, srcAt q a, srcAt q b, ())).2 ⟨rfl, rfl, hne⟩
      rw [List.append_nil] at this
      exact hn ⟨_, this, rfl⟩
  | c :: ys, pre, s, hm, hp, hs, hv => by
    obtain ⟨h1, h2, h3⟩ := (hm c).1 (by simp)
    have hnew : ∀ d ∈ pre, d.1 ≠ c.1 := fun d hd => (List.pairwise_append.1 hp).2.2 d hd c (by simp)
    have hto : toOk c.2.2.1 = true := by
      rw [toOk_iff, h2]
      exact fun h => (okL_src hb h).2
    have hr : okRef c.1 = true := by
      by_cases e : srcAt c.1 a = eS
      · refine (okL_src hb (q := c.1) fun e2 => h3 ?_).1
        rw [h1, h2, e, e2]
      · exact (okL_src ha e).1
    have hat : srcAt c.1 s = c.2.1 := by
      rw [hv, if_neg, h1]
      rintro ⟨d, hd, e⟩
      exact hnew d hd e
    unfold ptF
    rw [if_pos ⟨hr, hto, hat⟩]
    have he : pre ++ c :: ys = (pre ++ [c]) ++ ys := by simp
    refine ptF_all ha hb ys (pre ++ [c]) _ (by rw [← he]; exact hm) (by rw [← he]; exact hp) (okL_set hs hr (toOk_iff.1 hto)) fun q => ?_
    rw [srcAt_set hs.1, hv]
    by_cases e : q = c.1
    · rw [if_pos e, if_pos ⟨c, by simp, e.symm⟩, h2, e]
    · rw [if_neg e]
      have : (∃ d ∈ pre ++ [c], d.1 = q) ↔ ∃ d ∈ pre, d.1 = q := by
        constructor
        · rintro ⟨d, hd, k⟩
          rcases List.mem_append.1 hd with hd | hd
          · exact ⟨d, hd, k⟩
          · rw [List.mem_singleton] at hd
            subst hd
            exact absurd k.symm e
        · rintro ⟨d, hd, k⟩
          exact ⟨d, List.mem_append_left _ hd, k⟩
      simp only [this]
theorem ptF_df {a b : List dCell} (ha : OkL a) (hb : OkL b) : ptF a (dfS a b) = some b :=
  ptF_all ha hb (dfS a b) [] a (fun c => mem_dfS) ((dfS_srt a b).imp fun h => ahead_ne h) ha (fun q => by rw [if_neg (by rintro ⟨_, h, _⟩; cases h)])
/-- Changes turned round. -/
def tn1 (c : dChange) : dChange := (c.1, c.2.2.1, c.2.1, ())
def tnL (l : List dChange) : List dChange := (l.map tn1).reverse
theorem tn_tn (l : List dChange) : tnL (tnL l) = l := by
  unfold tnL
  rw [List.map_reverse, List.reverse_reverse, List.map_map]
  exact (List.map_congr_left fun c _ => rfl).trans (List.map_id l)
theorem ptF_tn {a b : List dCell} (ha : OkL a) (hb : OkL b) : ptF b (tnL (dfS a b)) = some a := by
  refine ptF_all hb ha (tnL (dfS a b)) [] b (fun c => ?_) ?_ hb (fun q => by rw [if_neg (by rintro ⟨_, h, _⟩; cases h)])
  · show c ∈ tnL _ ↔ _
    unfold tnL
    rw [List.mem_reverse, List.mem_map]
    constructor
    · rintro ⟨d, hd, rfl⟩
      obtain ⟨h1, h2, h3⟩ := mem_dfS.1 hd
      exact ⟨h2, h1, fun e => h3 e.symm⟩
    · rintro ⟨h1, h2, h3⟩
      exact ⟨tn1 c, mem_dfS.2 ⟨h2, h1, fun e => h3 e.symm⟩, rfl⟩
  · show (tnL _).Pairwise _
    unfold tnL
    rw [List.pairwise_reverse, List.pairwise_map]
    exact (dfS_srt a b).imp fun h => Ne.symm (ahead_ne h)
theorem dfS_nil {a b : List dCell} (ha : OkL a) (hb : OkL b) : dfS a b = [] ↔ a = b := by
  constructor
  · intro h
    refine sheet_ext ha.1 hb.1 (okL_ne ha) (okL_ne hb) fun q => ?_
    apply Classical.byContradiction
    intro hne
    have := (mem_dfS (a := a) (b := b) (c := (q, srcAt q a, srcAt q b, ()))).2 ⟨rfl, rfl, hne⟩
    rw [h] at this
    cases this
  · rintro rfl
    have : ∀ c, c ∉ dfS a a := fun c hc => by
      obtain ⟨h1, h2, h3⟩ := mem_dfS.1 hc
      exact h3 (h1.trans h2.symm)
    exact List.eq_nil_iff_forall_not_mem.2 this
theorem dfS_len2 {a b : List dCell} (ha : okSheet a = true) (hb : okSheet b = true) : (dfS a b).length ≤ 240 := by
  have := dfS_len a b
  have := okSheet_len ha
  have := okSheet_len hb
  omega
theorem tn_len (l : List dChange) : (tnL l).length = l.length := by simp [tnL]
theorem ptR_df {a b : List dCell} (ha : okSheet a = true) (hb : okSheet b = true) : ptR a (dfS a b) = (b, true) := by
  unfold ptR
  have := dfS_len2 ha hb
  rw [if_pos ⟨ha, by omega⟩, ptF_df (okL_of ha) (okL_of hb)]
  exact if_pos (okSheet_len hb)
theorem ptR_tn {a b : List dCell} (ha : okSheet a = true) (hb : okSheet b = true) : ptR b (tnL (dfS a b)) = (a, true) := by
  unfold ptR
  have := dfS_len2 ha hb
  rw [if_pos ⟨hb, by rw [tn_len]; omega⟩, ptF_tn (okL_of ha) (okL_of hb)]
  exact if_pos (okSheet_len ha)
/-- Merged: the sheet, the places at which they clash, is it done? -/
noncomputable def mrgR (o x y : List dCell) : List dCell × List dRef × Bool :=
  if okSheet o = true ∧ okSheet x = true ∧ okSheet y = true then (if clS o x y = [] then (if (mrgS o x y).length ≤ 120 then (mrgS o x y, [], true) else ([], [], false)) else ([], clS o x y, false)) else ([], [], false)
theorem mrg_comm (o x y : List dCell) (h : clS o x y = []) : mrgS o x y = mrgS o y x := by
  refine sheet_ext (mrgS_srt _ _ _) (mrgS_srt _ _ _) (mrgS_ne _ _ _) (mrgS_ne _ _ _) fun q => ?_
  rw [srcAt_mrgS, srcAt_mrgS]
  have hq : ¬ clB o x y q = true := fun e => by
    have := mem_clS.2 e
    rw [h] at this
    cases this
  rw [clB_iff] at hq
  unfold mrgV
  by_cases e1 : srcAt q x = srcAt q o
  · rw [if_pos e1]
    by_cases e2 : srcAt q y = srcAt q o
    · rw [if_pos e2, e1, e2]
    · rw [if_neg e2]
  · rw [if_neg e1]
    by_cases e2 : srcAt q y = srcAt q o
    · rw [if_pos e2]
    · rw [if_neg e2]
      apply Classical.byContradiction
      intro e3
      exact hq ⟨e1, e2, e3⟩
theorem cl_comm (o x y : List dCell) : clS o x y = clS o y x := by
  refine srtR_ext (clS_srt _ _ _) (clS_srt _ _ _) fun q => ?_
  rw [mem_clS, mem_clS, clB_iff, clB_iff]
  exact ⟨fun ⟨a, b, c⟩ => ⟨b, a, fun e => c e.symm⟩, fun ⟨a, b, c⟩ => ⟨b, a, fun e => c e.symm⟩⟩
theorem cl_left (o x : List dCell) : clS o x o = [] := by
  rw [List.eq_nil_iff_forall_not_mem]
  intro q hq
  exact (clB_iff.1 (mem_clS.1 hq)).2.1 rfl
theorem cl_right (o y : List dCell) : clS o o y = [] := by rw [cl_comm, cl_left]
theorem mrg_left {o x : List dCell} (hx : OkL x) : mrgS o x o = x := by
  refine sheet_ext (mrgS_srt _ _ _) hx.1 (mrgS_ne _ _ _) (okL_ne hx) fun q => ?_
  rw [srcAt_mrgS]
  unfold mrgV
  split
  · rename_i e
    exact e.symm
  · rfl
theorem mrg_right {o y : List dCell} (hy : OkL y) : mrgS o o y = y := by rw [mrg_comm _ _ _ (cl_right o y), mrg_left hy]
theorem mrg_okL {o x y : List dCell} (ho : OkL o) (hx : OkL x) (hy : OkL y) : OkL (mrgS o x y) := by
  refine ⟨mrgS_srt _ _ _, fun c hc => ?_⟩
  obtain ⟨_, h2, h3⟩ := mem_mrgS.1 hc
  rw [h2] at h3 ⊢
  unfold mrgV at h3 ⊢
  split
  · rename_i e
    rw [if_pos e] at h3
    exact okL_src hy h3
  · rename_i e
    rw [if_neg e] at h3
    exact okL_src hx h3
end Go.Proofs.YtbkcnfbjigjgdaaGreatDoor.Abs
/- Plain laws: what is entered at a place: both sides; loops that look for an element and that take some out. -/
set_option linter.unusedVariables false
set_option linter.unusedSimpArgs false
set_option linter.unusedSectionVars false
namespace Go.Proofs.YtbkcnfbjigjgdaaGreatDoor.Abs
open Go

/-! ### Loops of the library -/
section
variable {α R : Type}
/-- The first element that is wanted. -/
def fIdx (p : α → Bool) : List α → Nat → Int
  | [], _ => -1
  | c :: l, n => if p c = true then (n : Int) else fIdx p l (n + 1)
theorem idx_loop {p : α → Bool} {s : List α} {d : α} {P : Int → Option R} {F : Int → Option R} (hl : s.length ≤ 1000000000000)
    (hP : ∀ j, P j = if decide (j < (s.length : Int)) = true then ix s j d fun y => if p y = true then F j else P (IntKind.i64.wrap (j + 1)) else F (-1)) : ∀ (ys pre : List α), s = pre ++ ys → P (pre.length : Int) = F (fIdx p ys pre.length)
  | [], pre, h => by
    rw [hP, ifF (nlt_at h)]
    rfl
  | y :: ys, pre, h => by
    have ih := idx_loop hl hP ys (pre ++ [y]) (next_at h)
    rw [hP, ifT (lt_at h), ix_at h, wrap_at h (by omega), ih, List.length_append, List.length_singleton]
    show _ = F (if p y = true then (pre.length : Int) else fIdx p ys (pre.length + 1))
    by_cases hp : p y = true
    · rw [if_pos hp, if_pos hp]
    · rw [if_neg hp, if_neg hp]
theorem fIdx_no {p : α → Bool} : ∀ {l : List α} {n : Nat}, fIdx p l n = -1 → ∀ c ∈ l, p c = false
  | [], _, _, c, h => by cases h
  | x :: l, n, e, c, h => by
    unfold fIdx at e
    by_cases hx : p x = true
    · rw [if_pos hx] at e
      omega
    · rw [if_neg hx] at e
      rcases List.mem_cons.1 h with rfl | h
      · simpa using hx
      · exact fIdx_no e c h
theorem fIdx_at {p : α → Bool} : ∀ {l : List α} {n : Nat}, fIdx p l n ≠ -1 → ∃ pre x ys, l = pre ++ x :: ys ∧ p x = true ∧ (∀ c ∈ pre, p c = false) ∧ fIdx p l n = ((n + pre.length : Nat) : Int)
  | [], _, e => absurd rfl e
  | x :: l, n, e => by
    unfold fIdx at e ⊢
    by_cases hx : p x = true
    · rw [if_pos hx]
      exact ⟨[], x, l, rfl, hx, (fun c h => by cases h), rfl⟩
    · rw [if_neg hx] at e ⊢
      obtain ⟨pre, z, ys, h1, h2, h3, h4⟩ := fIdx_at e
      refine ⟨x :: pre, z, ys, by rw [h1]; rfl, h2, ?_, ?_⟩
      · intro c hc
        rcases List.mem_cons.1 hc with rfl | hc
        · simpa using hx
        · exact h3 c hc
      · rw [h4, List.length_cons]
        congr 1
        omega
/-- Elements that are taken out: those that stay move to the front. -/
theorem del_loop {p : α → Bool} {d : α} {P : Int → Int → List α → Option R} {F : List α → Option R}
    (hP : ∀ i j xs, P i j xs = if decide (j < (xs.length : Int)) = true then inb xs j (if (!p (List.getD xs (Int.toNat j) d)) = true then inb xs i (P (IntKind.i64.wrap (i + 1)) (IntKind.i64.wrap (j + 1)) (List.set xs (Int.toNat i) (List.getD xs (Int.toNat j) d))) else P i (IntKind.i64.wrap (j + 1)) xs)
      else (if (0 : Int) ≤ i then (if i < (xs.length : Int) then rwh (List.take (Int.toNat i) xs ++ List.replicate (xs.length - Int.toNat i) d) i F else none) else none)) :
    ∀ (ys kept junk : List α), kept.length + junk.length + ys.length ≤ 1000000000000 → junk ≠ [] → P (kept.length : Int) ((kept.length + junk.length : Nat) : Int) (kept ++ junk ++ ys) = F (kept ++ ys.filter fun c => !p c)
  | [], kept, junk, hl, hj => by
    have hjl := List.length_pos_iff.2 hj
    rw [hP, ifF (by simp only [List.length_append, List.length_nil]; omega), if_pos (by omega), if_pos (by simp only [List.length_append, List.length_nil]; omega)]
    simp only [List.append_nil, Int.toNat_natCast, List.filter_nil]
    rw [rwh_ok (by omega) (by simp only [List.length_append, List.length_take, List.length_replicate]; omega)]
    simp
  | y :: ys, kept, junk, hl, hj => by
    have hjl := List.length_pos_iff.2 hj
    rw [List.length_cons] at hl
    have e1 : kept ++ junk ++ y :: ys = (kept ++ junk) ++ y :: ys := rfl
    have hlen : ((kept ++ junk).length : Int) = ((kept.length + junk.length : Nat) : Int) := by simp
    have hg : List.getD (kept ++ junk ++ y :: ys) (Int.toNat ((kept.length + junk.length : Nat) : Int)) d = y := by
      rw [← hlen]
      exact getD_at
    rw [hP, ifT (by rw [List.length_append, List.length_append, List.length_cons]; omega), inb_ok (by omega) (by rw [List.length_append, List.length_append, List.length_cons]; omega), hg]
    by_cases hp : p y = true
    · rw [hp, if_neg (by decide), wr (by omega) (by omega)]
      have ih := del_loop hP ys kept (junk ++ [y]) (by simp only [List.length_append, List.length_singleton]; omega) (by simp)
      have e2 : kept ++ (junk ++ [y]) ++ ys = kept ++ junk ++ y :: ys := by simp
      have e3 : ((kept.length + (junk ++ [y]).length : Nat) : Int) = ((kept.length + junk.length : Nat) : Int) + 1 := by simp; omega
      rw [e2, e3] at ih
      rw [ih, List.filter_cons_of_neg (by simp [hp])]
    · have hp' : p y = false := by simpa using hp
      rw [hp', if_pos (show (!false) = true from rfl), inb_ok (by omega) (by rw [List.length_append, List.length_append, List.length_cons]; omega), wr (by omega) (by omega), wr (by omega) (by omega)]
      obtain ⟨z, zs, rfl⟩ : ∃ z zs, junk = z :: zs := by
        cases junk with
        | nil => exact absurd rfl hj
        | cons z zs => exact ⟨z, zs, rfl⟩
      have ih := del_loop hP ys (kept ++ [y]) (zs ++ [y]) (by simp only [List.length_append, List.length_nil, List.length_cons] at hl ⊢; omega) (by simp)
      have e2 : List.set (kept ++ z :: zs ++ y :: ys) (Int.toNat (kept.length : Int)) y = kept ++ [y] ++ (zs ++ [y]) ++ ys := by simp
      have e3 : (((kept ++ [y]).length + (zs ++ [y]).length : Nat) : Int) = ((kept.length + (z :: zs).length : Nat) : Int) + 1 := by simp; omega
      have e4 : ((kept ++ [y]).length : Int) = (kept.length : Int) + 1 := by simp
      rw [e3, e4] at ih
      rw [e2, ih, List.filter_cons_of_pos (by simp [hp'])]
      simp
end
/-! ### Entering -/
theorem ref_ne (r : dRef) : (fun c : dCell => !eqB tRef c.1 r) = fun c => !decide (c.1 = r) := by
  funext c
  congr 1
  rw [Bool.eq_iff_iff, decide_eq_true_eq, eqRg]
def ltC (a b : dCell) : Bool := aheadB a.1 b.1
theorem swoR : Sort.SWO (α := dRef) aheadB where
  irrefl := ahead_irrefl
  trans _ _ _ h k := ahead_trans h k
  ntrans x y z h k := by
    rw [Bool.eq_false_iff] at h k ⊢
    intro hz
    rcases ahead_total x y with e | e | e
    · exact h e
    · subst e
      exact k hz
    · exact k (ahead_trans e hz)
theorem swoC : Sort.SWO (α := tCell.den) ltC where
  irrefl x := swoR.irrefl x.1
  trans x y z h k := swoR.trans x.1 y.1 z.1 h k
  ntrans x y z h k := swoR.ntrans x.1 y.1 z.1 h k
theorem ins_sorted {r : dRef} {x : ByteArray} {s : List dCell} (h : SrtS s) : sorted (α := tCell.den) ltC (delS r s ++ [(r, x, ())]) = insS r x s :=
  perm_sorted ((sorted_perm swoC _).trans (ins_perm s).symm) (sorted_sorted swoC _) (ins_srt h)
section
variable {s : List dCell} {r : dRef} {x : ByteArray} (hl : s.length ≤ 1000000)
include hl
theorem sl5Set_true : ∀ (ys pre acc : List dCell), s = pre ++ ys → acc.length + ys.length ≤ 1000010 → sl5Set_p4 s x true (pre.length : Int) r.1 r.2.1 acc = some ((acc ++ delS r ys, ()), ())
  | [], pre, acc, h, ha => by
    rw [sl5Set_p4_eq, ifF (nlt_at h)]
    simp [delS]
  | y :: ys, pre, acc, h, ha => by
    rw [List.length_cons] at ha
    rw [sl5Set_p4_eq, ifT (lt_at h)]
    simp only [Bool.not_true, Bool.false_eq_true, if_false, ix_at h]
    show (if (!eqB tRef y.1 r) = true then _ else _) = _
    by_cases e : y.1 = r
    · rw [eqRg.mpr e, if_neg (by decide), wrap_at h (by omega), sl5Set_true ys _ acc (next_at h) (by omega), del_cons_eq e]
    · have e' : eqB tRef y.1 r = false := by rw [Bool.eq_false_iff, ne_eq, eqRg]; exact e
      rw [e', if_pos (by rfl), app_ok (by simp only [List.length_singleton]; omega), wrap_at h (by omega), sl5Set_true ys _ _ (next_at h) (by simp only [List.length_append, List.length_singleton]; omega), del_cons_ne e]
      simp
theorem sl5Set_false : ∀ (ys pre acc : List dCell), s = pre ++ ys → acc.length + ys.length ≤ 1000000 → sl5Set_p4 s x false (pre.length : Int) r.1 r.2.1 acc = some ((acc ++ insS r x ys, ()), ())
  | [], pre, acc, h, ha => by
    rw [sl5Set_p4_eq, ifF (nlt_at h), if_pos (by rfl), app_ok (by simp only [List.length_singleton, List.length_nil] at ha ⊢; omega)]
    rfl
  | y :: ys, pre, acc, h, ha => by
    rw [List.length_cons] at ha
    rw [sl5Set_p4_eq, ifT (lt_at h), if_pos (by rfl)]
    simp only [ix_at h, sl1Ahead_ok, Option.bind_some]
    show (if (!aheadB y.1 r) = true then _ else _) = _
    unfold insS
    cases k : aheadB y.1 r with
    | true =>
      have e := ahead_ne k
      have e' : eqB tRef y.1 r = false := by rw [Bool.eq_false_iff, ne_eq, eqRg]; exact e
      rw [if_neg (by decide), if_pos rfl]
      show (if (!eqB tRef y.1 r) = true then _ else _) = _
      rw [e', if_pos (by rfl), app_ok (by simp only [List.length_singleton]; omega), wrap_at h (by omega), sl5Set_false ys _ _ (next_at h) (by simp only [List.length_append, List.length_singleton]; omega)]
      simp
    | false =>
      rw [if_pos (by decide), if_neg (by decide), app_ok (by simp only [List.length_singleton]; omega)]
      show (if (!eqB tRef y.1 r) = true then _ else _) = _
      by_cases e : y.1 = r
      · rw [eqRg.mpr e, if_neg (by decide), wrap_at h (by omega), sl5Set_true hl ys _ _ (next_at h) (by simp only [List.length_append, List.length_singleton]; omega), del_cons_eq e]
        simp
      · have e' : eqB tRef y.1 r = false := by rw [Bool.eq_false_iff, ne_eq, eqRg]; exact e
        rw [e', if_pos (by rfl), app_ok (by simp only [List.length_append, List.length_singleton]; omega), wrap_at h (by omega), sl5Set_true hl ys _ _ (next_at h) (by simp only [List.length_append, List.length_singleton]; omega), del_cons_ne e]
        simp
theorem sl5Set_ok : sl5Set s r x = some ((setS s r x, ()), ()) := by
  rw [sl5Set_eq]
  unfold setS
  by_cases hx : x = eS
  · subst hx
    rw [if_pos rfl, show (ByteArray.toList eS == ByteArray.toList (⟨#[]⟩ : ByteArray)) = decide (eS = eS) from eqS, decide_eq_true rfl]
    exact sl5Set_true hl s [] [] rfl (by simp only [List.length_nil]; omega)
  · rw [if_neg hx]
    have : (ByteArray.toList x == ByteArray.toList (⟨#[]⟩ : ByteArray)) = false := by
      rw [show (ByteArray.toList x == ByteArray.toList (⟨#[]⟩ : ByteArray)) = decide (x = eS) from eqS, decide_eq_false hx]
    rw [this]
    exact sl5Set_false hl s [] [] rfl (by simp only [List.length_nil]; omega)
end
end Go.Proofs.YtbkcnfbjigjgdaaGreatDoor.Abs
/- Plain laws: changes that are laid on a sheet: both sides. -/
set_option linter.unusedVariables false
set_option linter.unusedSimpArgs false
set_option linter.unusedSectionVars false
namespace Go.Proofs.YtbkcnfbjigjgdaaGreatDoor.Abs
open Go

theorem inpV_eS : inpV eS = (eS, true) := by
  have h := (inp_ok (x := eS) (by decide)).2.1
  rw [sInputOf_eq, sl2Plain_ok (by decide)] at h
  have hp : (plain eS && decide ((eS.size : Int) ≤ 200)) = true := by decide +kernel
  have he : (ByteArray.toList eS == ByteArray.toList (⟨#[]⟩ : ByteArray)) = decide (eS = eS) := eqS
  rw [hp, he, decide_eq_true rfl] at h
  simp only [Option.bind_some, Bool.not_true, Bool.false_eq_true, if_false, if_true, Option.some.injEq, Prod.mk.injEq, and_true] at h
  exact Prod.ext h.1.symm h.2.symm
theorem toOk_inp (x : ByteArray) : ((inpV x).2 && decide ((inpV x).1 = x)) = toOk x := by
  unfold toOk
  by_cases h : x = eS
  · subst h
    rw [inpV_eS]
    simp
  · rw [decide_eq_false h, Bool.false_or]
    unfold srcOk
    rw [decide_eq_false h]
    simp
theorem eqD {a b : ByteArray} : (ByteArray.toList a == ByteArray.toList b) = decide (a = b) := eqS
theorem eqE {a : ByteArray} : (ByteArray.toList a == ByteArray.toList (⟨#[]⟩ : ByteArray)) = decide (a = eS) := eqS
theorem src_if {x : ByteArray} (hx : x.size ≤ 9223372036854775807) {R : Type} {K N : Option R} : (if (!(ByteArray.toList x == ByteArray.toList (⟨#[]⟩ : ByteArray))) = true then ((iisSource x).bind fun z2 => if (!z2.1.1) = true then N else K) else K) = if toOk x = true then K else N := by
  rw [eqE, iisSource_ok hx]
  unfold toOk
  by_cases h : x = eS
  · simp [h]
  · cases hs : srcOk x <;> simp [h, hs]
theorem ptF_no {s : List dCell} {y : dChange} {ys : List dChange} (h : ¬ (okRef y.1 = true ∧ toOk y.2.2.1 = true ∧ srcAt y.1 s = y.2.1)) : some (((ptEnd (ptF s (y :: ys))).1, (ptEnd (ptF s (y :: ys))).2, ()), ()) = some ((([] : List dCell), false, ()), ()) := by
  unfold ptF
  rw [if_neg h]
  rfl
theorem ptF_yes {s : List dCell} {y : dChange} {ys : List dChange} (h : okRef y.1 = true ∧ toOk y.2.2.1 = true ∧ srcAt y.1 s = y.2.1) : ptF s (y :: ys) = ptF (setS s y.1 y.2.2.1) ys := by
  conv => lhs; unfold ptF
  rw [if_pos h]
theorem pt_last (s : List dCell) : (if decide ((s.length : Int) > 120) = true then (some ((([] : (List dCell)), false, ()), (()))) else (some ((s, true, ()), (())))) = some (((ptEnd (ptF s [])).1, (ptEnd (ptF s [])).2, ()), ()) := by
  unfold ptF ptEnd
  by_cases hn : s.length ≤ 120
  · rw [ifF (by omega)]
    simp [hn]
  · rw [ifT (by omega)]
    simp [hn]
section
variable {l : List dChange} (hl : l.length ≤ 360) (hsz : ∀ c ∈ l, c.2.2.1.size ≤ 9223372036854775807)
include hl hsz
end
theorem ptR_short {s : List dCell} {l : List dChange} (h1 : okSheet s = true) (h2 : l.length ≤ 360) : ptR s l = ptEnd (ptF s l) := if_pos ⟨h1, h2⟩
theorem ptR_long {s : List dCell} {l : List dChange} (h : ¬ (okSheet s = true ∧ l.length ≤ 360)) : ptR s l = ([], false) := if_neg h
section
variable {s : List dCell} {l : List dChange} (hs : ∀ c ∈ s, c.2.1.size ≤ 9223372036854775807) (hsl : s.length ≤ 1000000000) (hsz : ∀ c ∈ l, c.2.2.1.size ≤ 9223372036854775807)
include hs hsl hsz
end
end Go.Proofs.YtbkcnfbjigjgdaaGreatDoor.Abs
