/- FnParts says true. -/
import Derived.Test.YtiligfmembmapaaGreatDoorZPE5
set_option linter.unusedVariables false
set_option linter.unusedSimpArgs false
set_option linter.unusedSectionVars false
namespace Go.Proofs.YtiligfmembmapaaGreatDoor.Abs
open Go

theorem told_is {f : List dFNode} {t : List UInt8} {l : List dCellValue} (h : okF f = true ∧ fT f = t) (ht : t.length ≤ 200) (hvs : okVs l = true) (hl : l.length ≤ 120) (hlz : ∀ c ∈ l, c.2.1.2.2.1.size ≤ 9223372036854775807) : wtold (ba t) l = some ((evalF f l, ()), ()) := by
  rw [told_ok h.1 (by rw [h.2]) (by rw [h.2]; exact ht) hl hlz]
  unfold evalV
  rw [if_pos h.1, if_pos hvs]
theorem nz0_N (n : Int) : nz0 (vN n) = vN n := rfl
theorem nz0_B (b : Bool) : nz0 (vB b) = vB b := rfl
theorem nz0_E {v : dValue} (h : v.1 = 4) : nz0 v = v := by
  unfold nz0
  rw [if_neg (by omega)]
theorem iAdd_N {m n : Int} (hm : okVal (vN m) = true) (hn : okVal (vN n) = true) : iAdd (vN m) (vN n) = some ((bnd (m + n), ()), ()) := by
  have e : ∀ k : Int, (vN k).2.2.1.size ≤ 9223372036854775807 := fun k => Nat.zero_le _
  rw [iAdd_ok (e m) (e n), add_vN hm hn]
section
variable {l : List dCellValue} (hvs : okVs l = true) (hl : l.length ≤ 120) (hlz : ∀ c ∈ l, c.2.1.2.2.1.size ≤ 9223372036854775807)
include hvs hl hlz
theorem parts_12 : wFnParts_p12 l = some ((true, ()), ()) := by
  have hv := okVs_vals hvs
  have hpw : (l.map (·.1)).Pairwise fun a b => ahead a b = true := by
    unfold okVs at hvs
    simp only [Bool.and_eq_true] at hvs
    exact ascB_none hvs.2.2
  have hlen : ∀ a, (valsIn l a).length ≤ 120 := fun a => by
    unfold valsIn
    rw [List.length_map]
    exact Nat.le_trans (List.length_filter_le _ _) hl
  have c1 := cnt_le (valsIn l ((1, 1, ()), (3, 2, ()), ()))
  have c2 := cnt_le (valsIn l ((1, 3, ()), (3, 4, ()), ()))
  have c3 := hlen ((1, 1, ()), (3, 2, ()), ())
  have c4 := hlen ((1, 3, ()), (3, 4, ()), ())
  have t1 := told_is okC14 (by decide) hvs hl hlz
  have t2 := told_is okC12 (by decide) hvs hl hlz
  have t3 := told_is okC34 (by decide) hvs hl hlz
  have t4 := told_is okE (by decide) hvs hl hlz
  have t5 := told_is okI (by decide) hvs hl hlz
  have t6 := told_is okNN (by decide) hvs hl hlz
  have t7 := told_is okC1 (by decide) hvs hl hlz
  have t8 := told_is okC2 (by decide) hvs hl hlz
  rw [eval_cnt, cnt_ok _ _ _ _ (Int.le_refl _), nz0_N, Int.zero_add] at t1 t2 t3
  rw [vals_two (a := 1) (b := 3) (m := 1) (k := 2) (n := 4) (by decide) (by decide) hpw, cnt_app] at t1
  rw [show (2 : Int) + 1 = 3 from rfl] at t1
  have ha := iAdd_N (okN (n := cntV (valsIn l ((1, 1, ()), (3, 2, ()), ()))) (by omega) (by omega)) (okN (n := cntV (valsIn l ((1, 3, ()), (3, 4, ()), ()))) (by omega) (by omega))
  rw [bnd_in (by omega) (by omega)] at ha
  rw [eval_E] at t4
  rw [eval_I] at t5
  rw [eval_N] at t6
  rw [eval_C] at t7 t8
  rw [wFnParts_p12_eq]
  show ((wtold (ba [67, 79, 85, 78, 84, 40, 65, 49, 58, 67, 52, 41]) l).bind _) = _
  rw [t1, Option.bind_some]
  show ((wtold (ba [67, 79, 85, 78, 84, 40, 65, 49, 58, 67, 50, 41]) l).bind _) = _
  rw [t2, Option.bind_some]
  show ((wtold (ba [67, 79, 85, 78, 84, 40, 65, 51, 58, 67, 52, 41]) l).bind _) = _
  rw [t3, Option.bind_some, ha, Option.bind_some]
  dsimp only
  rw [eqVlD, decide_eq_true rfl, if_neg (by decide)]
  show ((wtold (ba [65, 49, 61, 66, 49]) l).bind _) = _
  rw [t4, Option.bind_some]
  show ((wtold (ba [73, 70, 40, 65, 49, 61, 66, 49, 44, 67, 49, 44, 67, 50, 41]) l).bind _) = _
  rw [t5, Option.bind_some]
  show ((wtold (ba [78, 79, 84, 40, 78, 79, 84, 40, 65, 49, 61, 66, 49, 41, 41]) l).bind _) = _
  rw [t6, Option.bind_some]
  have t7' : wtold (⟨#[67, 49]⟩ : ByteArray) l = _ := t7
  have t8' : wtold (⟨#[67, 50]⟩ : ByteArray) l = _ := t8
  rw [t7', t8']
  simp only [Option.bind_some, eqVlD]
  rcases eqV_cases hv with ⟨b, hb⟩ | ⟨h4, hok⟩
  · rw [hb, not_B, not_B, Bool.not_not, nz0_B]
    cases b with
    | true => simp [vB, isTru, okVal, inB]
    | false => simp [vB, isTru, okVal, inB]
  · have hT : isTru (eqV l) = false := by
      unfold isTru
      rw [hok, h4]
      rfl
    have hN : nonV (eqV l) = eqV l := by
      unfold nonV
      rw [if_pos hok, if_pos h4]
    rw [hT, hN, not_err h4 hok, not_err h4 hok, nz0_E h4]
    simp [h4, nz0_E h4]
theorem parts_8 {w : dValue} (hw : w = nz0 (sumL (valsIn l ((1, 1, ()), (3, 4, ()), ())) (vN 0))) : wFnParts_p8 l w.1 w.2.1 w.2.2.1 = some ((true, ()), ()) := by
  have hv := okVs_vals hvs
  have hpw : (l.map (·.1)).Pairwise fun a b => ahead a b = true := by
    unfold okVs at hvs
    simp only [Bool.and_eq_true] at hvs
    exact ascB_none hvs.2.2
  have hvv : ∀ a, ∀ v ∈ valsIn l a, okVal v = true := fun a v h => by
    unfold valsIn at h
    obtain ⟨c, hc, rfl⟩ := List.mem_map.1 h
    exact hv c (List.mem_filter.1 hc).1
  have h12 := parts_12 hvs hl hlz
  have t1 := told_is ok12 (by decide) hvs hl hlz
  have t2 := told_is ok34 (by decide) hvs hl hlz
  rw [eval_sum] at t1 t2
  have e0 : okVal (vN 0) = true := by decide
  have k1 := sum_kind (hvv ((1, 1, ()), (3, 2, ()), ())) e0
  have k2 := sum_kind (hvv ((1, 3, ()), (3, 4, ()), ())) e0
  have k3 := sum_kind (hvv ((1, 1, ()), (3, 4, ()), ())) e0
  rw [wFnParts_p8_eq]
  show ((wtold (ba [83, 85, 77, 40, 65, 49, 58, 67, 50, 41]) l).bind _) = _
  rw [t1, Option.bind_some]
  show ((wtold (ba [83, 85, 77, 40, 65, 51, 58, 67, 52, 41]) l).bind _) = _
  rw [t2, Option.bind_some, h12]
  dsimp only
  rcases k1 with k1 | ⟨k1, o1⟩
  · rw [nz0_E k1, k1]
    rfl
  · rw [k1, nz0_N]
    rcases k2 with k2 | ⟨k2, o2⟩
    · rw [nz0_E k2, k2]
      rfl
    · rw [k2, nz0_N]
      rcases k3 with k3 | ⟨k3, o3⟩
      · rw [nz0_E k3] at hw
        rw [show w.1 = 4 by rw [hw]; exact k3]
        rfl
      · rw [k3, nz0_N] at hw
        rw [iAdd_N o1 o2, Option.bind_some]
        have ht : totV (valsIn l ((1, 1, ()), (3, 4, ()), ())) = totV (valsIn l ((1, 1, ()), (3, 2, ()), ())) + totV (valsIn l ((1, 3, ()), (3, 4, ()), ())) := by
          rw [vals_two (a := 1) (b := 3) (m := 1) (k := 2) (n := 4) (by decide) (by decide) hpw, tot_app]
          rfl
        have e1 : (0 + totV (valsIn l ((1, 1, ()), (3, 2, ()), ()))) + (0 + totV (valsIn l ((1, 3, ()), (3, 4, ()), ()))) = 0 + totV (valsIn l ((1, 1, ()), (3, 4, ()), ())) := by omega
        have hb : bnd (0 + totV (valsIn l ((1, 1, ()), (3, 4, ()), ()))) = vN (0 + totV (valsIn l ((1, 1, ()), (3, 4, ()), ()))) := by
          unfold bnd
          unfold okVal at o3
          simp only [vN] at o3
          simp at o3
          rw [if_pos (by simpa using o3)]
        have ew : ((w.1, w.2.1, w.2.2.1, ()) : dValue) = w := rfl
        rw [e1, hb, ew, hw]
        simp [eqVlD]
end
theorem wFnParts_ok {x : List Int} (h : x.length ≤ maxLen ∧ ∀ b ∈ x, SmT (.int .u8) b) : wFnParts x = some ((true, ()), ()) := by
  rw [wFnParts_eq, wbig_ok, Option.bind_some]
  dsimp only
  by_cases hb : 1048576 < (x.length : Int)
  · rw [ifT hb]
  · rw [ifF hb]
    obtain ⟨⟨⟨g, l, u⟩, v⟩, hz, _, hl⟩ := sDrawEval_ok (byt_of h hb)
    rw [hz, Option.bind_some]
    dsimp only at hl ⊢
    have hl1 := hl.1
    have hlz : ∀ c ∈ l, c.2.1.2.2.1.size ≤ 9223372036854775807 := fun c hc => Nat.le_trans (hl.2 c hc) (by decide)
    have hs := okF_small ok14.1
    have hr : sReadFormula (ba [83, 85, 77, 40, 65, 49, 58, 67, 52, 41]) = some ((fA 1 1 4, true, ()), ()) := by
      obtain ⟨f, b, h1, h2, _, _⟩ := readF (x := ba [83, 85, 77, 40, 65, 49, 58, 67, 52, 41]) (by decide)
      have h3 := read_text ok14.1 (by rw [ok14.2]; decide)
      rw [ok14.2, h2] at h3
      cases h3
      exact h1
    have t1 := told_ok (l := l) ok14.1 rfl (by rw [ok14.2]; decide) (by omega) hlz
    rw [ok14.2] at t1
    have e2 := sEval_ok (f := fA 1 1 4) (l := l) (by omega) hlz (by decide) (fun x hx => Nat.le_trans (hs.2 x hx).1 (by decide)) (fun x hx => Nat.le_trans (hs.2 x hx).2 (by decide))
    have e4 := sValuesOk_ok (xs := l) (by omega) hlz
    show ((sReadFormula (ba [83, 85, 77, 40, 65, 49, 58, 67, 52, 41])).bind _) = _
    rw [hr, Option.bind_some]
    show ((wtold (ba [83, 85, 77, 40, 65, 49, 58, 67, 52, 41]) l).bind _) = _
    rw [t1, Option.bind_some]
    simp only [e2, e4, Option.bind_some, eqVlD, decide_true, Bool.not_true, Bool.false_eq_true, if_false]
    cases h2 : okVs l with
    | false => simp
    | true =>
      simp only [Bool.not_true, Bool.false_eq_true, if_false]
      refine parts_8 h2 (by omega) hlz ?_
      unfold evalV
      rw [if_pos ok14.1, if_pos h2, eval_sum]
end Go.Proofs.YtiligfmembmapaaGreatDoor.Abs
