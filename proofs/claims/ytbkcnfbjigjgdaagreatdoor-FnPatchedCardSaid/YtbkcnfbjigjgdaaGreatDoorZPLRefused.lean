/- FnPatchesRefused and FnPatched say true. -/
import Derived.Test.YtbkcnfbjigjgdaaGreatDoorZPT37
set_option linter.unusedVariables false
set_option linter.unusedSimpArgs false
set_option linter.unusedSectionVars false
namespace Go.Proofs.YtbkcnfbjigjgdaaGreatDoor.Abs
open Go

theorem ptR_none {s n : List dCell} {l : List dChange} (h : ptR s l = (n, true)) : OkL s := okL_of (ptR_ok h).1
theorem dfR_ok {a b : List dCell} (ha : okSheet a = true) (hb : okSheet b = true) : dfR a b = dfS a b := if_pos ⟨ha, hb⟩
theorem wFnPatched_ok {x : List Int} (h : x.length ≤ maxLen ∧ ∀ b ∈ x, SmT (.int .u8) b) : wFnPatched x = some ((true, ()), ()) := by
  rw [wFnPatched_eq, wbig_ok, Option.bind_some]
  dsimp only
  by_cases hb : 1048576 < (x.length : Int)
  · rw [ifT hb]
  · rw [ifF hb]
    obtain ⟨⟨⟨a, b, u⟩, v⟩, hz, hs, ht⟩ := sDrawDiffOf_ok (byt_of h hb)
    rw [hz, Option.bind_some]
    dsimp only at hs ht ⊢
    have hs1 := hs.1
    have ht1 := ht.1
    have hd := dfR_small a b
    have hd1 := hd.1
    have f1 := iDiffOf_ok (a := a) (b := b) (by omega) (by omega) hs.sz ht.sz
    have f2 := sDiffOf_ok (a := a) (b := b) (by omega) (by omega) hs.sz ht.sz
    have g1 := wsameChanges_ok (xs := dfR a b) (ys := dfR a b) (by omega)
    have e1 := sSheetOk_ok (s := a) hs.sz (by omega)
    have e2 := sSheetOk_ok (s := b) ht.sz (by omega)
    simp only [f1, f2, g1, e1, e2, Option.bind_some, decide_true, Bool.not_true, Bool.false_eq_true, if_false]
    cases ha : okSheet a with
    | false => simp
    | true =>
      cases hb' : okSheet b with
      | false => simp
      | true =>
        rw [dfR_ok ha hb'] at hd hd1 ⊢
        have hds : ∀ c ∈ dfS a b, c.2.2.1.size ≤ 9223372036854775807 := fun c hc => Nat.le_trans (hd.2 c hc) (by decide)
        have htn : ∀ c ∈ tnL (dfS a b), c.2.2.1.size ≤ 9223372036854775807 := by
          intro c hc
          unfold tnL at hc
          obtain ⟨d, hd', rfl⟩ := List.mem_map.1 (List.mem_reverse.1 hc)
          show d.2.1.size ≤ _
          rw [(mem_dfS.1 hd').1]
          exact Nat.le_trans (srcAt_size ha _) (by decide)
        have p1 := iPatched_ok (s := a) (l := dfS a b) hs.sz (by omega) hds
        have p2 := iPatched_ok (s := b) (l := tnL (dfS a b)) ht.sz (by omega) htn
        have q1 := iTurned_ok (xs := dfS a b) (by omega)
        have q2 := iTurned_ok (xs := tnL (dfS a b)) (by rw [tn_len]; omega)
        rw [ptR_df ha hb'] at p1
        rw [ptR_tn ha hb'] at p2
        rw [tn_tn] at q2
        have s1 := wsameCells_ok (xs := b) (ys := b) (by omega)
        have s2 := wsameCells_ok (xs := a) (ys := a) (by omega)
        have s3 := wsameCells_ok (xs := a) (ys := b) (by omega)
        have s4 := wsameChanges_ok (xs := dfS a b) (ys := dfS a b) (by omega)
        have hnil : ((((dfS a b).length : Int) == 0) == decide (a = b)) = true := by
          have := dfS_nil (okL_of ha) (okL_of hb')
          by_cases e : a = b
          · have e0 := this.2 e
            rw [e0, decide_eq_true e]
            rfl
          · have e0 : dfS a b ≠ [] := fun k => e (this.1 k)
            have e1 : 0 < (dfS a b).length := List.length_pos_iff.2 e0
            rw [decide_eq_false e]
            have : (((dfS a b).length : Int) == 0) = false := by
              simp only [beq_eq_false_iff_ne]
              omega
            rw [this]
            rfl
        simp only [p1, p2, q1, q2, s1, s2, s3, s4, hnil, Option.bind_some, decide_true, Bool.not_true, Bool.false_eq_true, if_false, if_true]
end Go.Proofs.YtbkcnfbjigjgdaaGreatDoor.Abs
