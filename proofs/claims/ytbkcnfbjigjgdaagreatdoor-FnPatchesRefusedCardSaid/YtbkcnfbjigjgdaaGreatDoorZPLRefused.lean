/- FnPatchesRefused and FnPatched say true. -/
import Derived.Test.YtbkcnfbjigjgdaaGreatDoorZPT37
set_option linter.unusedVariables false
set_option linter.unusedSimpArgs false
set_option linter.unusedSectionVars false
namespace Go.Proofs.YtbkcnfbjigjgdaaGreatDoor.Abs
open Go

theorem byt_of {x : List Int} (h : x.length ≤ maxLen ∧ ∀ b ∈ x, SmT (.int .u8) b) (hl : ¬ 1048576 < (x.length : Int)) : Byt x := by
  refine ⟨by omega, fun b hb => ?_⟩
  have : (decide (IntKind.u8.min ≤ b) && decide (b ≤ IntKind.u8.max)) = true := h.2 b hb
  simp only [Bool.and_eq_true, decide_eq_true_eq] at this
  have e1 : IntKind.u8.min = 0 := rfl
  have e2 : IntKind.u8.max = 255 := rfl
  omega
theorem ptR_none {s n : List dCell} {l : List dChange} (h : ptR s l = (n, true)) : OkL s := okL_of (ptR_ok h).1
theorem wFnPatchesRefused_ok {x : List Int} (h : x.length ≤ maxLen ∧ ∀ b ∈ x, SmT (.int .u8) b) : wFnPatchesRefused x = some ((true, ()), ()) := by
  rw [wFnPatchesRefused_eq, wbig_ok, Option.bind_some]
  dsimp only
  by_cases hb : 1048576 < (x.length : Int)
  · rw [ifT hb]
  · rw [ifF hb]
    obtain ⟨⟨⟨s, l, u⟩, v⟩, hz, hs, hl⟩ := sDrawPatched_ok (byt_of h hb)
    rw [hz, Option.bind_some]
    dsimp only at hs hl ⊢
    have hs1 := hs.1
    have hl1 := hl.1
    have hls : ∀ c ∈ l, c.2.2.1.size ≤ 9223372036854775807 := fun c hc => Nat.le_trans (hl.2 c hc) (by decide)
    have hp := ptR_size s l
    rw [iPatched_ok hs.sz (by omega) hls, Option.bind_some, sPatched_ok hs.sz (by omega) hls, Option.bind_some]
    have hsame := wsameCells_ok (xs := (ptR s l).1) (ys := (ptR s l).1) (by omega)
    simp only [hsame, Option.bind_some, beq_self_eq_true, decide_true, Bool.not_true, Bool.false_eq_true, if_false, if_true]
    cases ho : (ptR s l).2 with
    | false => simp
    | true =>
      simp only [Bool.not_true, Bool.false_eq_true, if_false]
      rcases List.eq_nil_or_concat l with hl0 | ⟨m, c, hl0⟩
      · subst hl0
        simp
      · rw [List.concat_eq_append] at hl0
        obtain ⟨n, hn⟩ : ∃ n, ptR s l = (n, true) := ⟨(ptR s l).1, by rw [← ho]⟩
        obtain ⟨k1, k2, k3⟩ := ptR_ok hn
        have hlen : (l.length : Int) - 1 = (m.length : Int) := by rw [hl0]; simp
        have hne : ((l.length : Int) == 0) = false := by
          rw [hl0]
          simp
          omega
        have hat : l.getD ((l.length : Int) - 1).toNat tChange.dflt = c := by
          rw [hlen, hl0, List.getD_eq_getElem?_getD]
          simp
        rw [hne, if_neg (by decide), wr (by omega) (by omega), hat, inb_ok (by omega) (by omega), hn]
        dsimp only
        have hnl := okSheet_len k2
        have hnz : ∀ c ∈ n, c.2.1.size ≤ 9223372036854775807 := fun c hc => Nat.le_trans (okSheet_size k2 c hc) (by decide)
        rw [iSourceAt_ok hnz (by omega), Option.bind_some, if_pos k2]
        rw [hl0] at k3
        rw [ptF_last (okL_of k1) k3]
        simp only [beq_self_eq_true, if_true]
        rw [iSheetOk_ok hnz (by omega), k2]
        rfl
theorem dfR_ok {a b : List dCell} (ha : okSheet a = true) (hb : okSheet b = true) : dfR a b = dfS a b := if_pos ⟨ha, hb⟩
end Go.Proofs.YtbkcnfbjigjgdaaGreatDoor.Abs
