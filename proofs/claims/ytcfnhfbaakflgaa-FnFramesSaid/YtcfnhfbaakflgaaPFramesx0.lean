-- printed by xprint, a program of this session's own round the kit's print; Lean checks it
import Derived.Test.YtcfnhfbaakflgaaProg
import Derived.Below
import Derived.Deep.Draws
import Derived.Deep.AppendLies
import Derived.Maps.AppendAt
import Derived.OwnWalk
import Derived.Laws.BytesArg
import Derived.Laws.MakeOwn
import Derived.Laws.OwnMore
import Derived.Deep.OwnRows
import Derived.Tactics
import Derived.Lib.ConvBytes
import Derived.Laws.Slices
import Derived.WalkKit
import Derived.KernelRfl
import Derived.RowKit3
import Derived.Deep.LoopGhost
import Derived.Deep.QuietTactic
import Derived.BigQuiet
import Derived.WideLaws
import Derived.Deep.DeepCutAuto
import Derived.Deep.CutBlock
import Derived.Deep.RegionHeld3
import Derived.Laws.Rows
import Derived.Lib.AppendStr
import Derived.ArgAppend
import Derived.Laws.IdiomCopy
import Derived.OrdersHeld
import Derived.Laws.BitsLemmas
import Derived.RowKit
import Derived.Test.YtcfnhfbaakflgaaWWords
import Derived.Test.YtcfnhfbaakflgaaWLast
import Derived.Test.YtcfnhfbaakflgaaWTab
import Derived.Test.YtcfnhfbaakflgaaWFour
import Derived.Test.YtcfnhfbaakflgaaWQPut
import Derived.Test.YtcfnhfbaakflgaaWApart
import Derived.Test.YtcfnhfbaakflgaaWArr
import Derived.Test.YtcfnhfbaakflgaaWZeros
import Derived.Test.YtcfnhfbaakflgaaWFoot
import Derived.Test.YtcfnhfbaakflgaaWKept
import Derived.Test.YtcfnhfbaakflgaaWShare
import Derived.Test.YtcfnhfbaakflgaaWN
import Derived.Test.YtcfnhfbaakflgaaWFootNe
import Derived.Test.YtcfnhfbaakflgaaWAt
import Derived.Test.YtcfnhfbaakflgaaWEqStruct
import Derived.Test.YtcfnhfbaakflgaaWRepsOne
import Derived.Test.YtcfnhfbaakflgaaWInv
import Derived.Test.YtcfnhfbaakflgaaWInvWords
import Derived.Test.YtcfnhfbaakflgaaWGuard
import Derived.Test.YtcfnhfbaakflgaaWNEv
import Derived.Test.YtcfnhfbaakflgaaWMore
namespace Go.Proofs.Ytcfnhfbaakflgaa.PFrames
open Go.RowKit Go.Proofs.YtcfnhfbaakflgaaW.PrintWords Go.Proofs.YtcfnhfbaakflgaaW.PrintLast Go.Proofs.YtcfnhfbaakflgaaW.PrintMore
attribute [local go_sem] max2_int min2_int max_two min_two max_three min_three max_four min_four   -- for this text's walks alone
set_option linter.unusedVariables false
set_option linter.unusedSimpArgs false



def errW : Option Int → Value
  | none => .nilIface
  | some c => .iface 0 (.int .i64 c)
theorem errW_none : errW none = .nilIface := rfl
theorem errW_some (c : Int) : errW (some c) = .iface 0 (.int .i64 c) := rfl

theorem info5 : (Try.prog.info? 5).map (fun i => (i.zero, i.size, i.bytes)) = some (some (.int .u8 0), 1, 1) := by kernel_rfl
theorem info9 : (Try.prog.info? 9).map (fun i => (i.zero, i.size, i.bytes)) = some (some (.string ⟨#[]⟩), 1, 16) := by kernel_rfl
theorem info75 : (Try.prog.info? 75).map (fun i => (i.zero, i.size, i.bytes)) = some (some (.int .u32 0), 1, 4) := by kernel_rfl
-- the values' own types

end Go.Proofs.Ytcfnhfbaakflgaa.PFrames
