/- FrameOf of the program and of the reference: one text, for every text below 2^47 bytes. -/
import Derived.Test.YtcfnhfbaakflgaaQCrc
namespace Go.Proofs.Ytcfnhfbaakflgaa.Pure
open Go.RowKit Go.Proofs.Ytcfnhfbaakflgaa.PFrames Go.Proofs.YtcfnhfbaakflgaaW.PrintWords Go.Proofs.YtcfnhfbaakflgaaW.PrintLast

def fourB (c : Int) : ByteArray := strOfNums [(c / 16777216) % 256, (c / 65536) % 256, (c / 256) % 256, c % 256]
theorem fourB_size (c : Int) : (fourB c).size = 4 := by simp [fourB, strOfNums, ByteArray.size]
theorem impl_four_eq (c : Int) : impl_four.f c = some (fourB c) := rfl
theorem spec_four_eq' (c : Int) : spec_l14Four.f c = some (fourB c) := rfl
def frameB (s : ByteArray) : ByteArray := if (s.size : Int) > 1000000 then ⟨#[]⟩ else (fourB ((s.size : Int) % 4294967296) ++ fourB ((crcOf s : Nat) : Int)) ++ s
theorem impl_FrameOf_ev (s : ByteArray) (hs : s.size ≤ 140737488351232) : Ev (fun k => impl_FrameOf.f k s) (frameB s) := by
  unfold impl_FrameOf.f frameB
  by_cases h : (s.size : Int) > 1000000
  · simp only [if_pos h]
    exact Ev.now _
  · simp only [if_neg h, impl_four_eq, Option.bind_some]
    refine Ev.bind (impl_crc_ev s hs) ?_
    rw [if_pos (by rw [fourB_size, fourB_size]; omega), if_pos (by rw [ByteArray.size_append, fourB_size, fourB_size]; omega)]
    exact Ev.now _
theorem spec_FrameOf_ev (s : ByteArray) (hs : s.size ≤ 140737488351232) : Ev (fun k => spec_FrameOf.f k s) (frameB s) := by
  unfold spec_FrameOf.f frameB
  by_cases h : (s.size : Int) > 1000000
  · simp only [if_pos h]
    exact Ev.now _
  · simp only [if_neg h, spec_four_eq', Option.bind_some]
    refine Ev.bind (spec_crc_ev s hs) ?_
    rw [if_pos (by rw [fourB_size, fourB_size]; omega), if_pos (by rw [ByteArray.size_append, fourB_size, fourB_size]; omega)]
    exact Ev.now _
end Go.Proofs.Ytcfnhfbaakflgaa.Pure
