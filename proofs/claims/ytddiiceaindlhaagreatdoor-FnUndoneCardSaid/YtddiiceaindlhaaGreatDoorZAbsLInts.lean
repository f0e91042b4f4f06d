/- slices.Clone at numbers: the library's contract, laid at this program. -/
import Derived.Shelf.SlicesE.Clone
import Derived.Test.YtddiiceaindlhaaGreatDoorZL1
import Derived.Test.YtddiiceaindlhaaGreatDoorZQD
set_option linter.unusedVariables false
set_option linter.unusedSimpArgs false
set_option linter.unusedSectionVars false
namespace Go.Proofs
open Go.Shelf Go.RowKit Go.Lib Go.Sort
def Tryz.clInt64_ren:Go.Shelf.Ren:=⟨fun | 41=>181 | n=>n,fun | 22=>132 | 23=>2 | 4=>4 | n=>n,fun | n=>n⟩
theorem Tryz.clInt64:Go.Proofs.SlLaysE0.n41 Tryz.prog Tryz.clInt64_ren:={
 mixed:=by kernel_rfl
 f41:=⟨Tryz.f181.name,by decide,Tryz.func181.trans (congrArg some (by kernel_rfl))⟩
 t4:=Tryz.underlying4
 a4:=Tryz.isAgg4
 z4:=Tryz.sizeOf4
 v4:=Tryz.zeroValue4
 t22:=Tryz.underlying132
 a22:=Tryz.isAgg132
 z22:=Tryz.sizeOf132
 v22:=Tryz.zeroValue132}
end Go.Proofs
namespace Go.Proofs.YtddiiceaindlhaaGreatDoor.Abs
open Go Go.Shelf Go.RowKit Go.Lib Go.Sort
set_option maxRecDepth 100000 in
theorem OA {Gp:WP} : ∀(args:List SV) (tab:aw) (z:(Sh.pair (.row 2 (.int .i64) false) .unit).den×Sh.unit.den),fk 2 (.int .i64) 8 args tab=some z→eO Gp Tryz.prog {g:=181,fn:=Tryz.f181,sh := .pair (.row 2 (.int .i64) false) .unit,bx := .unit,own:=[],live:=[],prim:=some (fk 2 (.int .i64) 8)} args tab z:=by
 refine BL (P:=Tryz.prog) (g:=181) (nb:=8) (fn:=Tryz.f181) (e:=2) (t := .int .i64) (own:=[]) (live:=[]) rfl (by decide) (by decide) ?_ ?_
 ·exact fun n c w=>AnyE.slices_Clone_nil Tryz.clInt64 n c w
 ·exact fun a n c news w h1 h2 h3 h4 h5=>clone_any Tryz.clInt64 _ _ 1 8 rfl rfl (by kernel_rfl) (by kernel_rfl) (by kernel_rfl) (by decide) Tryz.sizeOf2 a n c news w h1 h2 h3 h4 h5
end Go.Proofs.YtddiiceaindlhaaGreatDoor.Abs
