/- FnEvalLooked says true. -/
import Derived.Test.YtiligfmembmapaaGreatDoorZP6
import Derived.Test.YtiligfmembmapaaGreatDoorZPT38
set_option linter.unusedVariables false
set_option linter.unusedSimpArgs false
set_option linter.unusedSectionVars false
namespace Go.Proofs.YtiligfmembmapaaGreatDoor.Abs
open Go

theorem wwithin_ok (r : dRef) (a : dArea) : wwithin r a = some ((inA a r, ()), ()) := by
  rw [wwithin_eq]
  unfold inA inB
  by_cases h1 : a.1.1 ≤ r.1 <;> by_cases h2 : r.1 ≤ a.2.1.1 <;> by_cases h3 : a.1.2.1 ≤ r.2.1 <;> by_cases h4 : r.2.1 ≤ a.2.1.2.1 <;> simp [h1, h2, h3, h4]
theorem iareasOf_loop {f : List dFNode} (hf : f.length ≤ 60) : ∀ (ys pre : List dFNode) (acc : List dArea), f = pre ++ ys → acc.length ≤ pre.length → iareasOf_p3 f (f.length : Int) (pre.length : Int) acc = some ((acc ++ areasV ys, ()), ())
  | [], pre, acc, h, ha => by
    rw [iareasOf_p3_eq, ifF (nlt_at h)]
    simp [areasV]
  | y :: ys, pre, acc, h, ha => by
    have hlen : pre.length ≤ 60 := by
      have := congrArg List.length h
      simp only [List.length_append, List.length_cons] at this
      omega
    have ih := iareasOf_loop hf ys (pre ++ [y])
    rw [iareasOf_p3_eq, ifT (lt_at h), ix_at h, wrap_at h (by omega)]
    simp only [iFNode_area_ok, Option.bind_some]
    have hsum : acc ++ [areaOf y] ++ areasV ys = acc ++ (areaOf y :: areasV ys) := by simp
    have happ : (acc.length + ([areaOf y] : List dArea).length) * 32 ≤ 140737488355328 := by simp only [List.length_singleton]; omega
    by_cases h2 : y.1 = 2
    · rw [if_pos (by simpa using h2), app_ok happ, ih (acc ++ [areaOf y]) (next_at h) (by simp only [List.length_append, List.length_singleton]; omega), hsum]
      simp [areasV, hasAr, h2]
    · rw [if_neg (by simpa using h2)]
      by_cases h3 : y.1 = 3
      · rw [if_pos (by simpa using h3), app_ok happ, ih (acc ++ [areaOf y]) (next_at h) (by simp only [List.length_append, List.length_singleton]; omega), hsum]
        simp [areasV, hasAr, h3]
      · rw [if_neg (by simpa using h3), ih acc (next_at h) (by simp only [List.length_append, List.length_singleton]; omega)]
        simp [areasV, hasAr, h2, h3]
section
variable {f : List dFNode} (hf : SmF f)
include hf
theorem SmF.s1 : ∀ x ∈ f, x.2.2.1.2.2.1.size ≤ 9223372036854775807 := fun x hx => Nat.le_trans (hf.2 x hx).1 (by decide)
theorem SmF.s2 : ∀ x ∈ f, x.2.2.2.2.2.1.length ≤ 10000000 := fun x hx => Nat.le_trans (hf.2 x hx).2 (by decide)
theorem iAreasOf_ok (h : okF f = true) : iAreasOf f = some ((areasV f, ()), ()) := by
  have hl := hf.1
  rw [iAreasOf_eq, iFormulaOk_ok (by omega) hf.s1 hf.s2, h]
  simp only [Option.bind_some, Bool.not_true, Bool.false_eq_true, if_false]
  rw [iareasOf_eq, show (0 : Int) = (([] : List dFNode).length : Int) from rfl, iareasOf_loop hl f [] [] rfl (Nat.le_refl _)]
  rfl
end
theorem eqVlD' {a b : dValue} : eqB tValue a b = decide (a = b) := eqVlD a b
section
variable {f : List dFNode} {l : List dCellValue} {v : dValue} (hl : l.length ≤ 1000) (hlv : ∀ c ∈ l, c.2.1.2.2.1.size ≤ 200) (hf : SmF f) (hok : okF f = true) (hvs : okVs l = true) (hv : evalF f l = v) (hv1 : okVal v = true) (hv2 : v.1 ≠ 0)
include hl hlv hf hok hvs hv hv1 hv2
theorem looked_last {i : Int} (h : ¬ i < (l.length : Int)) : wFnEvalLooked_p10 i f l v.1 v.2.1 v.2.2.1 (areasV f) (fewV (areasV f) l) = some ((true, ()), ()) := by
  have hl' : (fewV (areasV f) l).length ≤ l.length := List.length_filter_le _ _
  have hfl := hf.1
  rw [wFnEvalLooked_p10_eq, ifF h, iEval_ok (f := f) (l := fewV (areasV f) l) (by omega) (fun c hc => Nat.le_trans (hlv c (List.mem_filter.1 hc).1) (by decide)) (by omega) hf.s1 hf.s2, Option.bind_some]
  have he : evalV f (fewV (areasV f) l) = v := by
    unfold evalV
    rw [if_pos hok, if_pos (okVs_few _ hvs), eval_few hok, hv]
  rw [he]
  have e0 : (v.1, v.2.1, v.2.2.1, ()) = v := rfl
  simp only [e0, eqVlD, decide_true, if_true]
  rw [iValueOk_ok (Nat.le_trans (okVal_size hv1) (by decide)), hv1]
  simp [hv2]
theorem looked_in {c : dCellValue} {ar : List dArea} (has : areasV f = ar) (hal : ar.length ≤ 60) {i : Nat} (hi : l[i]? = some c) {next : Bool → Option ((Bool × Unit) × Unit)} {acc : List dCellValue}
    (hT : app acc [c] 48 (fun y1 => wFnEvalLooked_p10 (IntKind.i64.wrap ((i : Int) + 1)) f l v.1 v.2.1 v.2.2.1 ar y1) = next true) (hF : wFnEvalLooked_p10 (IntKind.i64.wrap ((i : Int) + 1)) f l v.1 v.2.1 v.2.2.1 ar acc = next false) :
    ∀ (ys pre : List dArea) (is : Bool), ar = pre ++ ys → wFnEvalLooked_p14 (i : Int) is (pre.length : Int) f l v.1 v.2.1 v.2.2.1 ar acc = next (is || ys.any fun a => inA a c.1)
  | [], pre, is, h => by
    have hi' := (List.getElem?_eq_some_iff.1 hi).1
    have hd : l.getD (i : Int).toNat tCellValue.dflt = c := by
      rw [List.getD_eq_getElem?_getD, show (i : Int).toNat = i from rfl, hi]
      rfl
    rw [wFnEvalLooked_p14_eq, ifF (nlt_at h), hd]
    cases is with
    | true => rw [if_pos rfl, inb_ok (by omega) (by omega), hT]; rfl
    | false => rw [if_neg (by decide), hF]; rfl
  | y :: ys, pre, is, h => by
    have hi' := (List.getElem?_eq_some_iff.1 hi).1
    have hd : l.getD (i : Int).toNat tCellValue.dflt = c := by
      rw [List.getD_eq_getElem?_getD, show (i : Int).toNat = i from rfl, hi]
      rfl
    have hlen : pre.length ≤ 60 := by
      have := congrArg List.length h
      simp only [List.length_append, List.length_cons] at this
      omega
    have hy : ar.getD (pre.length : Int).toNat tArea.dflt = y := by
      rw [h, List.getD_eq_getElem?_getD]
      simp
    rw [wFnEvalLooked_p14_eq, ifT (lt_at h), hd, hy, wrap_at h (by omega)]
    cases is with
    | true =>
      rw [if_pos rfl, looked_in has hal hi hT hF ys (pre ++ [y]) true (next_at h)]
      simp
    | false =>
      rw [if_neg (by decide), inb_ok (by omega) (by omega), inb_at h, wwithin_ok, Option.bind_some]
      dsimp only
      rw [looked_in has hal hi hT hF ys (pre ++ [y]) _ (next_at h)]
      simp
theorem looked_out {ar : List dArea} (has : areasV f = ar) (hal : ar.length ≤ 60) : ∀ (ys pre : List dCellValue), l = pre ++ ys → wFnEvalLooked_p10 (pre.length : Int) f l v.1 v.2.1 v.2.2.1 ar (fewV ar pre) = some ((true, ()), ())
  | [], pre, h => by
    have e : pre = l := by rw [h]; simp
    subst has
    rw [e]
    exact looked_last hl hlv hf hok hvs hv hv1 hv2 (by omega)
  | y :: ys, pre, h => by
    have hlen : pre.length ≤ 1000 := by
      have := congrArg List.length h
      simp only [List.length_append, List.length_cons] at this
      omega
    have hfl : (fewV ar pre).length ≤ pre.length := List.length_filter_le _ _
    have hi : l[pre.length]? = some y := by rw [h]; simp
    have ih := looked_out has hal ys (pre ++ [y]) (next_at h)
    have e : fewV ar (pre ++ [y]) = fewV ar pre ++ (if (ar.any fun a => inA a y.1) = true then [y] else []) := by
      unfold fewV
      rw [List.filter_append, List.filter_cons]
      simp
    rw [wFnEvalLooked_p10_eq, ifT (lt_at h)]
    refine (looked_in hl hlv hf hok hvs hv hv1 hv2 has hal hi (next := fun b => wFnEvalLooked_p10 (IntKind.i64.wrap ((pre.length : Int) + 1)) f l v.1 v.2.1 v.2.2.1 ar (fewV ar pre ++ if b = true then [y] else [])) ?_ ?_ ar [] false rfl).trans ?_
    · rw [app_ok (by simp only [List.length_singleton]; omega)]
      rfl
    · simp
    · rw [Bool.false_or, ← e, wrap_at h (by omega)]
      exact ih
end
theorem evalF_ok {f : List dFNode} {l : List dCellValue} (h1 : okF f = true) (h2 : okVs l = true) : okVal (evalF f l) = true ∧ (evalF f l).1 ≠ 0 := by
  have hs := okF_small h1
  have hll : l.length ≤ 120 := by
    unfold okVs at h2
    simp only [Bool.and_eq_true, decide_eq_true_eq] at h2
    omega
  have hv := okVs_vals h2
  obtain ⟨_, _, e3⟩ := evals_ok (f := f) (l := l) (by omega) (fun c hc => Nat.le_trans (okVal_size (hv c hc)) (by decide)) (by have := hs.1; omega) hs.s1 hs.s2 h1 h2
  unfold evalF
  dsimp only
  split
  · exact ⟨by decide, by decide⟩
  · rename_i h0
    exact ⟨e3, h0⟩
theorem wFnEvalLooked_ok {x : List Int} (h : x.length ≤ maxLen ∧ ∀ b ∈ x, SmT (.int .u8) b) : wFnEvalLooked x = some ((true, ()), ()) := by
  rw [wFnEvalLooked_eq, wbig_ok, Option.bind_some]
  dsimp only
  by_cases hb : 1048576 < (x.length : Int)
  · rw [ifT hb]
  · rw [ifF hb]
    obtain ⟨⟨⟨f, l, u⟩, v⟩, hz, hf, hl⟩ := sDrawEval_ok (byt_of h hb)
    rw [hz, Option.bind_some]
    dsimp only at hf hl ⊢
    have hf1 := hf.1
    have hl1 := hl.1
    have hlz : ∀ c ∈ l, c.2.1.2.2.1.size ≤ 9223372036854775807 := fun c hc => Nat.le_trans (hl.2 c hc) (by decide)
    have e1 := iEval_ok (f := f) (l := l) (by omega) hlz (by omega) hf.s1 hf.s2
    have e2 := sEval_ok (f := f) (l := l) (by omega) hlz (by omega) hf.s1 hf.s2
    have e3 := sFormulaOk_ok (f := f) (by omega) hf.s1 hf.s2
    have e4 := sValuesOk_ok (xs := l) (by omega) hlz
    simp only [e1, e2, e3, e4, Option.bind_some, eqVlD, decide_true, Bool.not_true, Bool.false_eq_true, if_false]
    cases h1 : okF f with
    | false => simp
    | true =>
      cases h2 : okVs l with
      | false => simp
      | true =>
        simp only [Bool.not_true, Bool.false_eq_true, if_false]
        have hev : evalV f l = evalF f l := by unfold evalV; rw [if_pos h1, if_pos h2]
        obtain ⟨o1, o2⟩ := evalF_ok h1 h2
        rw [iAreasOf_ok hf h1, Option.bind_some, hev]
        have hal : (areasV f).length ≤ 60 := by
          unfold areasV
          rw [List.length_map]
          exact Nat.le_trans (List.length_filter_le _ _) hf1
        exact looked_out (by omega) (fun c hc => Nat.le_trans (hl.2 c hc) (by decide)) hf h1 h2 rfl o1 o2 rfl hal l [] rfl
end Go.Proofs.YtiligfmembmapaaGreatDoor.Abs
