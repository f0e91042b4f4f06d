/- FnMerged says true. -/
import Derived.Test.YtbkcnfbjigjgdaaGreatDoorZPLRefused
set_option linter.unusedVariables false
set_option linter.unusedSimpArgs false
set_option linter.unusedSectionVars false
namespace Go.Proofs.YtbkcnfbjigjgdaaGreatDoor.Abs
open Go

theorem has_loop {l : List dRef} {r : dRef} (hl : l.length ≤ 1000000000) : ∀ (ys pre : List dRef), l = pre ++ ys → whasRef_p2 l (pre.length : Int) r.1 r.2.1 = some ((decide (r ∈ ys), ()), ())
  | [], pre, h => by
    rw [whasRef_p2_eq, ifF (nlt_at h)]
    simp
  | y :: ys, pre, h => by
    rw [whasRef_p2_eq, ifT (lt_at h), ix_at h, wrap_at h (by omega), has_loop hl ys (pre ++ [y]) (next_at h)]
    show (if eqB tRef y r = true then _ else _) = _
    rw [eqRD]
    by_cases e : y = r
    · subst e
      simp
    · have : ¬ r = y := fun k => e k.symm
      simp [e, this]
theorem whasRef_ok {l : List dRef} {r : dRef} (hl : l.length ≤ 1000000000) : whasRef l r = some ((decide (r ∈ l), ()), ()) := by
  rw [whasRef_eq]
  exact has_loop hl l [] rfl
section
variable {o x y : List dCell} (ho : okSheet o = true) (hx : okSheet x = true) (hy : okSheet y = true)
include ho hx hy
theorem mrg_cl : (mrgR o x y).2.1 = clS o x y := by
  rw [mrgR_ok ho hx hy]
  unfold mEnd
  dsimp only
  split
  · rename_i h
    rw [h]
    split <;> rfl
  · rfl
theorem mrg_yes (h : (mrgR o x y).2.2 = true) : clS o x y = [] ∧ (mrgR o x y).1 = mrgS o x y ∧ okSheet (mrgS o x y) = true := by
  rw [mrgR_ok ho hx hy] at h ⊢
  unfold mEnd at h ⊢
  dsimp only at h ⊢
  split at h
  · rename_i h1
    split at h
    · rename_i h2
      rw [if_pos h1, if_pos h2]
      exact ⟨h1, rfl, okL_to (mrg_okL (okL_of ho) (okL_of hx) (okL_of hy)) h2⟩
    · cases h
  · cases h
theorem mrg_sym : mrgR o y x = mrgR o x y := by
  rw [mrgR_ok ho hx hy, mrgR_ok ho hy hx, cl_comm o y x]
  unfold mEnd
  dsimp only
  by_cases h : clS o x y = []
  · rw [if_pos h, if_pos h, mrg_comm o x y h]
  · rw [if_neg h, if_neg h]
end
theorem mrgR_left {o x : List dCell} (ho : okSheet o = true) (hx : okSheet x = true) : mrgR o x o = (x, [], true) := by
  rw [mrgR_ok ho hx ho, cl_left, mrg_left (okL_of hx)]
  unfold mEnd
  dsimp only
  rw [if_pos rfl, if_pos (okSheet_len hx)]
theorem mrgR_right {o y : List dCell} (ho : okSheet o = true) (hy : okSheet y = true) : mrgR o o y = (y, [], true) := by
  rw [mrgR_ok ho ho hy, cl_right, mrg_right (okL_of hy)]
  unfold mEnd
  dsimp only
  rw [if_pos rfl, if_pos (okSheet_len hy)]
/-- The source at a place of a right sheet. -/
theorem src_ok {s : List dCell} {r : dRef} (h : okSheet s = true) : iSourceAt s r = some ((srcAt r s, ()), ()) := by
  have := okSheet_len h
  rw [iSourceAt_ok (fun c hc => Nat.le_trans (okSheet_size h c hc) (by decide)) (by omega), if_pos h]
section
variable {o x y : List dCell} (ho : okSheet o = true) (hx : okSheet x = true) (hy : okSheet y = true)
include ho hx hy
theorem loop_last {l : List dCell} {i : Int} (h : ¬ i < (l.length : Int)) : wFnMerged_p15 o x y (mrgR o x y).2.2 i (mrgR o x y).1 (mrgR o x y).2.1 l = some ((true, ()), ()) := by
  rw [wFnMerged_p15_eq, ifF h]
  cases k : (mrgR o x y).2.2 with
  | false => rfl
  | true =>
    rw [mrg_cl ho hx hy, (mrg_yes ho hx hy k).1]
    rfl
theorem loop_ok {l : List dCell} (hl : l.length ≤ 1000000) : ∀ (ys pre : List dCell), l = pre ++ ys → wFnMerged_p15 o x y (mrgR o x y).2.2 (pre.length : Int) (mrgR o x y).1 (mrgR o x y).2.1 l = some ((true, ()), ())
  | [], pre, h => loop_last ho hx hy (nlt_at h)
  | c :: ys, pre, h => by
    have ih := loop_ok hl ys (pre ++ [c]) (next_at h)
    have hd : l.getD ((pre.length : Int).toNat) tCell.dflt = c := by
      rw [h, List.getD_eq_getElem?_getD]
      simp
    have hcl : (clS o x y).length ≤ 1000000000 := by
      have h1 := okSheet_len ho
      have h2 := okSheet_len hx
      have h3 := okSheet_len hy
      have := clS_len o x y
      omega
    rw [wFnMerged_p15_eq, ifT (lt_at h), inb_at h, hd, src_ok ho, src_ok hx, src_ok hy, mrg_cl ho hx hy, whasRef_ok hcl]
    simp only [Option.bind_some, eqD]
    have next : wFnMerged_p16 o x y (mrgR o x y).2.2 (pre.length : Int) (mrgR o x y).1 (clS o x y) l = some ((true, ()), ()) := by
      rw [wFnMerged_p16_eq, wrap_at h (by omega), ← mrg_cl ho hx hy]
      exact ih
    have mid : wFnMerged_p23 o x y (mrgR o x y).2.2 (pre.length : Int) (srcAt c.1 x) (srcAt c.1 y) (mrgR o x y).1 (clS o x y) l c.1.1 c.1.2.1 = some ((true, ()), ()) := by
      rw [wFnMerged_p23_eq]
      cases k : (mrgR o x y).2.2 with
      | false =>
        rw [k] at next
        simp only [Bool.false_eq_true, if_false]
        exact next
      | true =>
        rw [k] at next
        obtain ⟨k1, k2, k3⟩ := mrg_yes ho hx hy k
        have hs : iSourceAt (mrgR o x y).1 (c.1.1, c.1.2.1, ()) = some ((mrgV o x y c.1, ()), ()) := by
          rw [k2, src_ok k3]
          exact congrArg (fun v => some ((v, ()), ())) (srcAt_mrgS o x y c.1)
        have hn : ¬ clB o x y c.1 = true := fun e => by
          have := mem_clS.2 e
          rw [k1] at this
          cases this
        rw [clB_iff] at hn
        simp only [if_true, hs, Option.bind_some, eqD]
        unfold mrgV
        by_cases e1 : srcAt c.1 x = srcAt c.1 o
        · rw [if_pos e1]
          by_cases e2 : srcAt c.1 y = srcAt c.1 x
          · simp [e2, next]
          · have e3 : ¬ srcAt c.1 x = srcAt c.1 y := fun e => e2 e.symm
            simp [e2, e3, next]
        · rw [if_neg e1]
          simp [next]
    have hcb : decide (c.1 ∈ clS o x y) = clB o x y c.1 := by
      rw [Bool.eq_iff_iff, decide_eq_true_eq]
      exact mem_clS
    rw [hcb]
    generalize hp : srcAt c.1 o = p at mid ⊢
    generalize hq : srcAt c.1 x = q at mid ⊢
    generalize hr : srcAt c.1 y = r at mid ⊢
    unfold clB
    rw [hp, hq, hr]
    by_cases e1 : q = p
    · rw [decide_eq_true e1]
      simp [mid]
    · rw [decide_eq_false e1]
      by_cases e2 : r = p
      · rw [decide_eq_true e2]
        simp [mid]
      · rw [decide_eq_false e2]
        by_cases e3 : q = r
        · rw [decide_eq_true e3]
          simp [mid]
        · rw [decide_eq_false e3]
          simp [mid]
end
theorem wFnMerged_ok {x : List Int} (h : x.length ≤ maxLen ∧ ∀ b ∈ x, SmT (.int .u8) b) : wFnMerged x = some ((true, ()), ()) := by
  rw [wFnMerged_eq, wbig_ok, Option.bind_some]
  dsimp only
  by_cases hb : 1048576 < (x.length : Int)
  · rw [ifT hb]
  · rw [ifF hb]
    obtain ⟨⟨⟨o, a, b, u⟩, v⟩, hz, hs, ht, hu⟩ := sDrawMerged_ok (byt_of h hb)
    rw [hz, Option.bind_some]
    dsimp only at hs ht hu ⊢
    have hs1 := hs.1
    have ht1 := ht.1
    have hu1 := hu.1
    have hp := mrgR_size o a b
    have hq := mrgR_refs o a b
    have c1 := wsameCells_ok (xs := (mrgR o a b).1) (ys := (mrgR o a b).1) (by omega)
    have c2 := wsameRefs_ok (xs := (mrgR o a b).2.1) (ys := (mrgR o a b).2.1) (by omega)
    have e1 := sSheetOk_ok (s := o) hs.sz (by omega)
    have e2 := sSheetOk_ok (s := a) ht.sz (by omega)
    have e3 := sSheetOk_ok (s := b) hu.sz (by omega)
    have m1 := iMerged_ok (o := o) (x := a) (y := b) (by omega) (by omega) (by omega) hs.sz ht.sz hu.sz
    have m2 := sMerged_ok (o := o) (x := a) (y := b) (by omega) (by omega) (by omega) hs.sz ht.sz hu.sz
    simp only [m1, m2, c1, c2, e1, e2, e3, Option.bind_some, beq_self_eq_true, decide_true, Bool.not_true, Bool.false_eq_true, if_false, if_true]
    cases ho : okSheet o with
    | false => simp
    | true =>
      cases ha : okSheet a with
      | false => simp
      | true =>
        cases hb' : okSheet b with
        | false => simp
        | true =>
          simp only [Bool.not_true, Bool.false_eq_true, if_false]
          have m3 := iMerged_ok (o := o) (x := b) (y := a) (by omega) (by omega) (by omega) hs.sz hu.sz ht.sz
          have m4 := iMerged_ok (o := o) (x := a) (y := o) (by omega) (by omega) (by omega) hs.sz ht.sz hs.sz
          have m5 := iMerged_ok (o := o) (x := o) (y := b) (by omega) (by omega) (by omega) hs.sz hs.sz hu.sz
          rw [mrg_sym ho ha hb'] at m3
          rw [mrgR_left ho ha] at m4
          rw [mrgR_right ho hb'] at m5
          have c3 := wsameCells_ok (xs := a) (ys := a) (by omega)
          have c4 := wsameCells_ok (xs := b) (ys := b) (by omega)
          rw [wFnMerged_p8_eq]
          simp only [m3, m4, m5, c1, c2, c3, c4, Option.bind_some, beq_self_eq_true, decide_true, Bool.not_true, Bool.false_eq_true, if_false]
          rw [wFnMerged_p13_eq, app_ok (by simp only [List.length_nil]; omega), List.nil_append, app_ok (by omega), app_ok (by simp only [List.length_append]; omega)]
          exact loop_ok ho ha hb' (l := o ++ a ++ b) (by simp only [List.length_append]; omega) _ [] rfl
end Go.Proofs.YtbkcnfbjigjgdaaGreatDoor.Abs
