/- What the reader of drawn bytes answers: numbers in range, short texts. -/
import Derived.Test.YtcfnhfbaakflgaaQFrame
import Derived.Test.YtcfnhfbaakflgaaPFramesx5
import Derived.Test.YtcfnhfbaakflgaaPFramesx6
namespace Go.Proofs.Ytcfnhfbaakflgaa.Pure
open Go.RowKit Go.Proofs.Ytcfnhfbaakflgaa.PFrames Go.Proofs.YtcfnhfbaakflgaaW.PrintWords Go.Proofs.YtcfnhfbaakflgaaW.PrintLast

/-- A reader's bytes and place are right. -/
structure Good (b : List Int) (p : Int) : Prop where
  lo : 0 ≤ p
  hi : p ≤ b.length
  many : b.length ≤ 1048576
  bytes : ∀ x ∈ b, 0 ≤ x ∧ x ≤ 255
theorem rd_range {b : List Int} (h : ∀ x ∈ b, 0 ≤ x ∧ x ≤ 255) (i : Int) : 0 ≤ rd b i ∧ rd b i ≤ 255 := by
  unfold rd
  rw [List.getD_eq_getElem?_getD]
  by_cases hi : i.toNat < b.length
  · rw [List.getElem?_eq_getElem hi]
    exact h _ (List.getElem_mem hi)
  · rw [List.getElem?_eq_none (by omega)]
    simp
theorem next_ok {b : List Int} {p : Int} (g : Good b p) : ∃ v q, spec_l1Rd_next.f b p = some (v, q) ∧ 0 ≤ v ∧ v ≤ 255 ∧ Good b q := by
  have h1 := g.lo; have h2 := g.hi; have h3 := g.many
  unfold spec_l1Rd_next.f
  by_cases c : p ≥ (b.length : Int)
  · rw [if_pos c]
    exact ⟨0, p, rfl, by omega, by omega, g⟩
  · have e : wrap64 (p + 1) = p + 1 := w64 (by omega) (by omega)
    have e2 : wrap64 (p + 1 - 1) = p := by rw [w64 (by omega) (by omega)]; omega
    have hr := rd_range g.bytes p
    rw [if_neg c, e, e2, if_pos (by omega), if_pos (by omega), w64 (by omega) (by omega)]
    exact ⟨_, _, rfl, hr.1, hr.2, ⟨by omega, by omega, h3, g.bytes⟩⟩
theorem below_ok {b : List Int} {p : Int} (g : Good b p) (n : Int) (h1 : 1 ≤ n) (h2 : n ≤ 65536) : ∃ v q, spec_l1Rd_below.f b p n = some (v, q) ∧ 0 ≤ v ∧ v < n ∧ Good b q := by
  unfold spec_l1Rd_below.f
  by_cases c1 : n ≤ 1
  · rw [if_pos c1]
    exact ⟨0, p, rfl, by omega, by omega, g⟩
  · rw [if_neg c1]
    obtain ⟨v, q, hv, v0, v1, g1⟩ := next_ok g
    by_cases c2 : n ≤ 256
    · rw [if_pos c2, hv]
      simp only [Option.bind_some]
      rw [if_neg (by omega), Int.tmod_eq_emod_of_nonneg v0]
      have := Int.emod_nonneg v (show n ≠ 0 by omega)
      have := Int.emod_lt_of_pos v (show 0 < n by omega)
      exact ⟨_, _, rfl, by omega, by omega, g1⟩
    · obtain ⟨u, q2, hu, u0, u1, g2⟩ := next_ok g1
      rw [if_neg c2, hv]
      simp only [Option.bind_some]
      rw [hu]
      simp only [Option.bind_some]
      rw [if_neg (by omega), w64 (i := v * 256) (by omega) (by omega), w64 (by omega) (by omega), Int.tmod_eq_emod_of_nonneg (by omega)]
      have := Int.emod_nonneg (v * 256 + u) (show n ≠ 0 by omega)
      have := Int.emod_lt_of_pos (v * 256 + u) (show 0 < n by omega)
      exact ⟨_, _, rfl, by omega, by omega, g2⟩
theorem text_ok {b : List Int} {p : Int} (g : Good b p) : ∃ t q, spec_l1Rd_text.f b p = some (t, q) ∧ t.size ≤ 3 ∧ Good b q := by
  obtain ⟨v, q, hv, v0, v1, g1⟩ := below_ok g 6 (by omega) (by omega)
  unfold spec_l1Rd_text.f
  simp only [Option.bind_some]
  rw [hv]
  simp only [Option.bind_some]
  rw [if_pos v0, if_pos (by simpa using v1)]
  refine ⟨_, _, rfl, ?_, g1⟩
  obtain ⟨n, rfl⟩ := Int.eq_ofNat_of_zero_le v0
  match n, v1 with
  | 0, _ => decide
  | 1, _ => decide
  | 2, _ => decide
  | 3, _ => decide
  | 4, _ => decide
  | 5, _ => decide
  | n + 6, h => exact absurd h (by omega)
theorem nums_size (l : List Int) : (strOfNums l).size = l.length := by simp [strOfNums, ByteArray.size]
theorem bytes_from : ∀ (d : Nat) (l : List Int) {b : List Int} {p : Int}, Good b p → d ≤ 100 → l.length + d ≤ 1000 → ∃ t q, Ev (fun k => spec_l1Rd_bytes.l0 k l (d : Int) b p) (t, q) ∧ t.size = l.length + d ∧ Good b q
  | 0, l, b, p, g, _, hl => by
    refine ⟨strOfNums l, p, Ev.step (f := fun _ => some (strOfNums l, p)) (fun k => ?_) (Ev.now _), by rw [nums_size]; omega, g⟩
    rw [spec_l1Rd_bytes.l0, if_neg (by omega)]
  | d + 1, l, b, p, g, hd, hl => by
    obtain ⟨v, q, hv, v0, v1, g1⟩ := below_ok g 256 (by omega) (by omega)
    obtain ⟨t, q2, h1, h2, h3⟩ := bytes_from d (l ++ [v % 256]) g1 (by omega) (by simp; omega)
    refine ⟨t, q2, Ev.step (fun k => ?_) h1, by rw [h2]; simp; omega, h3⟩
    rw [spec_l1Rd_bytes.l0, if_pos (by omega), hv]
    simp only [Option.bind_some]
    rw [if_pos (by omega), w64 (by omega) (by omega)]
    congr 1
    omega
theorem bytes_ok {b : List Int} {p : Int} (g : Good b p) (n : Nat) (h : n ≤ 100) : ∃ t q, Ev (fun k => spec_l1Rd_bytes.f k b p (n : Int)) (t, q) ∧ t.size ≤ n ∧ Good b q := by
  obtain ⟨v, q, hv, v0, v1, g1⟩ := below_ok g ((n : Int) + 1) (by omega) (by omega)
  obtain ⟨d, rfl⟩ := Int.eq_ofNat_of_zero_le v0
  obtain ⟨t, q2, h1, h2, h3⟩ := bytes_from d [] g1 (by omega) (by simp; omega)
  refine ⟨t, q2, ?_, by rw [h2]; simp; omega, h3⟩
  unfold spec_l1Rd_bytes.f
  rw [w64 (by omega) (by omega), hv]
  exact h1
end Go.Proofs.Ytcfnhfbaakflgaa.Pure
