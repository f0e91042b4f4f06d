/- FnExactFrameOf: for every text the program's FrameOf returns the bytes that the reference's returns (texts of more than 2^20 bytes are let by by the statement's own guard). No condition. -/
import Derived.Test.YtcfnhfbaakflgaaQFrame
namespace Go.Proofs.Ytcfnhfbaakflgaa.Pure
open Go.RowKit Go.Proofs.Ytcfnhfbaakflgaa.PFrames Go.Proofs.YtcfnhfbaakflgaaW.PrintWords Go.Proofs.YtcfnhfbaakflgaaW.PrintLast

theorem FnExactFrameOf : laws_FnExactFrameOf.Pure := by
  intro s hs
  apply Ev.rounds
  unfold laws_FnExactFrameOf.f
  by_cases h : (s.size : Int) > 1048576
  · simp only [if_pos h]
    exact Ev.now _
  · simp only [if_neg h]
    refine Ev.bind (spec_FrameOf_ev s hs) (Ev.bind (impl_FrameOf_ev s hs) ?_)
    simp only [if_true]
    exact Ev.now _
end Go.Proofs.Ytcfnhfbaakflgaa.Pure
