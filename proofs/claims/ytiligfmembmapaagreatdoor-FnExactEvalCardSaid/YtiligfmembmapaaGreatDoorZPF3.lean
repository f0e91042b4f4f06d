/- Formulas that are right: both sides. -/
import Derived.Test.YtiligfmembmapaaGreatDoorZPF2
set_option linter.unusedVariables false
set_option linter.unusedSimpArgs false
set_option linter.unusedSectionVars false
namespace Go.Proofs.YtiligfmembmapaaGreatDoor.Abs
open Go

def okTree (f : List dFNode) : Bool := match chk f f.length ((f.length : Int) - 1) with
  | some (s, h) => decide (s = 0) && (!isAr f ((f.length : Int) - 1) && decide ((h : Int) ≤ 12))
  | none => false
def okF (f : List dFNode) : Bool := inB (f.length : Int) 1 60 && okTree f
theorem okF_stands {f : List dFNode} (h : okF f = true) (i : Nat) (x : dFNode) (hx : f[i]? = some x) : stands f i x := by
  unfold okF okTree at h
  simp only [Bool.and_eq_true] at h
  obtain ⟨h1, h2⟩ := h
  have h1 := inB_iff.1 h1
  cases hc : chk f f.length ((f.length : Int) - 1) with
  | none => rw [hc] at h2; cases h2
  | some p =>
    obtain ⟨s, d⟩ := p
    rw [hc] at h2
    simp only [Bool.and_eq_true, decide_eq_true_eq] at h2
    have hl := (List.getElem?_eq_some_iff.1 hx).1
    obtain ⟨y, hy, hs⟩ := (chk_all f _ _ _ _ hc).2.2 i (by omega) (by omega)
    rw [hx] at hy
    rw [Option.some.inj hy]
    exact hs
section
variable {f : List dFNode} (hl : f.length ≤ 10000000) (hs : ∀ x ∈ f, x.2.2.1.2.2.1.size ≤ 9223372036854775807) (hkl : ∀ x ∈ f, x.2.2.2.2.2.1.length ≤ 10000000)
include hl hs hkl
theorem iFormulaOk_ok : iFormulaOk f = some ((okF f, ()), ()) := by
  rw [iFormulaOk_eq]
  unfold okF
  simp only [iwithin_ok, Option.bind_some]
  cases hb : inB (f.length : Int) 1 60 with
  | false => rfl
  | true =>
    have hb := inB_iff.1 hb
    obtain ⟨x, hx⟩ : ∃ y, f[((f.length : Int) - 1).toNat]? = some y := ⟨f[((f.length : Int) - 1).toNat]'(by omega), List.getElem?_eq_getElem _⟩
    have har : isAr f ((f.length : Int) - 1) = decide (x.1 = 3) := by
      unfold isAr
      rw [List.getD_eq_getElem?_getD, hx]
      rfl
    have hfr := ifrom_ok hl hs f.length ((f.length : Int) - 1) 0 (by omega) (by omega) (by omega) (by decide) (by decide) hkl
    simp only [if_true]
    rw [wr1 (by omega) (by omega), ix_of (by omega) hx, hfr]
    unfold okTree
    rw [har]
    cases hc : chk f f.length ((f.length : Int) - 1) with
    | none => by_cases h3 : x.1 = 3 <;> simp [h3, res12]
    | some p =>
      obtain ⟨s, h⟩ := p
      have hp := (chk_all f _ _ _ _ hc).1
      by_cases h3 : x.1 = 3
      · simp [h3]
      · by_cases h4 : (h : Int) ≤ 12
        · simp [h3, res12, h4, beqI]
        · simp [h3, res12, h4]
theorem sFormulaOk_kids {x : dFNode} {i : Nat} (hi : f[i]? = some x) (hil : i ≤ 10000000) : ∀ (ys pre : List Int), x.2.2.2.2.2.1 = pre ++ ys →
    sFormulaOk_p9 f (i : Int) (pre.length : Int) = if (ys.all fun k => inB k 0 ((i : Int) - 1) && (!isAr f k || decide (x.1 = 6))) = true then sFormulaOk_p4 f ((i + 1 : Nat) : Int) else some ((false, ()), ())
  | [], pre, he => by
    rw [sFormulaOk_p9_eq, ix_of (nn _) (by simpa using hi), ifF (nlt_at he), wr1 (by omega) (by omega)]
    simp
  | y :: ys, pre, he => by
    have hm : x ∈ f := List.mem_of_getElem? hi
    have := hkl x hm
    rw [sFormulaOk_p9_eq, ix_of (nn _) (by simpa using hi), ifT (lt_at he), ix_of (nn _) (by simpa using hi), ix_at he, sl1In_ok, Option.bind_some, wr1 (n := (i : Int) - 1) (by omega) (by omega), wrap_at he (by omega)]
    have ih := sFormulaOk_kids hi hil ys _ (next_at he)
    have hlt := (List.getElem?_eq_some_iff.1 hi).1
    cases hy : inB y 0 ((i : Int) - 1) with
    | false => simp [hy]
    | true =>
      have hy2 := inB_iff.1 hy
      obtain ⟨z, hz⟩ : ∃ z, f[y.toNat]? = some z := ⟨f[y.toNat]'(by omega), List.getElem?_eq_getElem _⟩
      have har : isAr f y = decide (z.1 = 3) := by
        unfold isAr
        rw [List.getD_eq_getElem?_getD, hz]
        rfl
      simp only [Bool.not_true, Bool.false_eq_true, if_false]
      rw [ix_of (by omega) hz]
      by_cases h3 : z.1 = 3
      · rw [if_pos (by simp [h3]), ix_of (nn _) (by simpa using hi)]
        by_cases h6 : x.1 = 6
        · rw [if_neg (by simp [h6]), ih]
          simp [hy, har, h6]
        · rw [if_pos (by simp [h6])]
          simp [hy, har, h3, h6]
      · rw [if_neg (by simp [h3]), ih]
        simp [hy, har, h3]
/-- A node stands rightly, as a truth value. -/
def standsB (f : List dFNode) (i : Nat) : Bool := match f[i]? with
  | some x => okNode x && x.2.2.2.2.2.1.all fun k => inB k 0 ((i : Int) - 1) && (!isAr f k || decide (x.1 = 6))
  | none => true
omit hl hs hkl in
theorem standsB_iff {i : Nat} {x : dFNode} (hx : f[i]? = some x) : standsB f i = true ↔ stands f i x := by
  unfold standsB stands
  rw [hx]
  simp only [Bool.and_eq_true, List.all_eq_true, inB_iff, Bool.or_eq_true, Bool.not_eq_true', decide_eq_true_eq]
  constructor
  · rintro ⟨h1, h2⟩
    refine ⟨h1, fun k hk => ?_⟩
    obtain ⟨⟨a, b⟩, c⟩ := h2 k hk
    refine ⟨a, by omega, fun ha => ?_⟩
    rcases c with c | c
    · rw [c] at ha
      cases ha
    · exact c
  · rintro ⟨h1, h2⟩
    refine ⟨h1, fun k hk => ?_⟩
    obtain ⟨a, b, c⟩ := h2 k hk
    refine ⟨⟨a, by omega⟩, ?_⟩
    cases ha : isAr f k with
    | true => exact .inr (c ha)
    | false => exact .inl rfl
theorem sFormulaOk_tail (hne : 1 ≤ f.length) (A : ∀ (i : Nat) (x : dFNode), f[i]? = some x → stands f i x) : sFormulaOk_p4 f (f.length : Int) = some ((okTree f, ()), ()) := by
  obtain ⟨x, hx⟩ : ∃ y, f[((f.length : Int) - 1).toNat]? = some y := ⟨f[((f.length : Int) - 1).toNat]'(by omega), List.getElem?_eq_getElem _⟩
  have har : isAr f ((f.length : Int) - 1) = decide (x.1 = 3) := by
    unfold isAr
    rw [List.getD_eq_getElem?_getD, hx]
    rfl
  rw [sFormulaOk_p4_eq, ifF (Int.lt_irrefl _), wr1 (by omega) (by omega), sl3Tree_ok hl hs A hkl f.length _ (by omega) (by omega) (by omega), Option.bind_some, ix_of (by omega) hx]
  unfold okTree
  rw [har]
  cases hc : chk f f.length ((f.length : Int) - 1) with
  | none => rfl
  | some p =>
    obtain ⟨s, h⟩ := p
    have er : res0 (some (s, h)) = s := rfl
    simp only [er]
    by_cases h0 : s = 0
    · by_cases h3 : x.1 = 3
      · simp [h0, h3]
      · rw [if_pos (by simp [h0]), if_pos (by simp [h3]), (sl3Deep_ok hl hs hkl _ _ _ _ hc hl).2]
        simp [h0, h3]
    · rw [if_neg (by simp [h0])]
      simp [h0]
theorem sFormulaOk_step {i : Nat} (hi : i < f.length) : sFormulaOk_p4 f (i : Int) = if standsB f i = true then sFormulaOk_p4 f ((i + 1 : Nat) : Int) else some ((false, ()), ()) := by
  obtain ⟨x, hx⟩ : ∃ y, f[i]? = some y := ⟨f[i], List.getElem?_eq_getElem _⟩
  have hm : x ∈ f := List.mem_of_getElem? hx
  rw [sFormulaOk_p4_eq, ifT (by omega), ix_of (nn _) (by simpa using hx), sl3NodeOk_ok (hs x hm), Option.bind_some]
  have es : standsB f i = (okNode x && x.2.2.2.2.2.1.all fun k => inB k 0 ((i : Int) - 1) && (!isAr f k || decide (x.1 = 6))) := by
    unfold standsB
    rw [hx]
  rw [es]
  cases ho : okNode x with
  | false => simp
  | true =>
    have := sFormulaOk_kids hl hs hkl hx (by omega) x.2.2.2.2.2.1 [] rfl
    simp only [Bool.not_true, Bool.false_eq_true, if_false, Bool.true_and]
    exact this
open Classical in
theorem sFormulaOk_steps : ∀ (n i : Nat), i + n = f.length → sFormulaOk_p4 f (i : Int) = if (∀ j, i ≤ j → j < f.length → standsB f j = true) then sFormulaOk_p4 f (f.length : Int) else some ((false, ()), ())
  | 0, i, h => by
    have : i = f.length := by omega
    rw [this, if_pos (fun j h1 h2 => by omega)]
  | n + 1, i, h => by
    rw [sFormulaOk_step hl hs hkl (by omega), sFormulaOk_steps n (i + 1) (by omega)]
    by_cases h1 : standsB f i = true
    · rw [if_pos h1]
      by_cases h2 : ∀ j, i + 1 ≤ j → j < f.length → standsB f j = true
      · rw [if_pos h2, if_pos (fun j a b => by
          by_cases hj : j = i
          · rw [hj]; exact h1
          · exact h2 j (by omega) b)]
      · rw [if_neg h2, if_neg (fun h3 => h2 fun j a b => h3 j (by omega) b)]
    · rw [if_neg h1, if_neg (fun h3 => h1 (h3 i (Nat.le_refl _) (by omega)))]
theorem sFormulaOk_ok : sFormulaOk f = some ((okF f, ()), ()) := by
  rw [sFormulaOk_eq]
  by_cases h1 : (f.length : Int) < 1
  · rw [ifT h1]
    have : inB (f.length : Int) 1 60 = false := by simp [inB]; omega
    simp [okF, this]
  · rw [ifF h1]
    by_cases h2 : (f.length : Int) > 60
    · rw [ifT h2]
      have : inB (f.length : Int) 1 60 = false := by simp [inB]; omega
      simp [okF, this]
    · have hb : inB (f.length : Int) 1 60 = true := inB_iff.2 (by omega)
      rw [ifF h2, show (0 : Int) = ((0 : Nat) : Int) from rfl, sFormulaOk_steps hl hs hkl f.length 0 (by omega)]
      by_cases A : ∀ j, 0 ≤ j → j < f.length → standsB f j = true
      · rw [if_pos A, sFormulaOk_tail hl hs hkl (by omega) fun i x hx => (standsB_iff hx).1 (A i (Nat.zero_le _) (List.getElem?_eq_some_iff.1 hx).1)]
        simp [okF, hb]
      · rw [if_neg A]
        have : okF f = false := by
          cases ho : okF f with
          | false => rfl
          | true =>
            refine absurd (fun j _ hj => ?_) A
            have hx : f[j]? = some f[j] := List.getElem?_eq_getElem _
            exact (standsB_iff hx).2 (okF_stands ho j _ hx)
        rw [this]
end
end Go.Proofs.YtiligfmembmapaaGreatDoor.Abs
