/- FnExactLca says true. -/
import Derived.Test.YtfffplonjaigkaaGreatDoorZM7
import Derived.Test.YtfffplonjaigkaaGreatDoorZPHC
set_option linter.unusedVariables false
set_option linter.unusedSimpArgs false
set_option linter.unusedSectionVars false
open Nat renaming le_trans→Q3
open Option renaming bind_some→M0
namespace Go.Proofs.YtfffplonjaigkaaGreatDoor.Abs
open Go
theorem DA {d:bw} (h:ld d≤1048576) : ∀ v∈d.2.1,cn v≤1048576:=fun v hv=>by
 unfold ld at h
 have:=uo (f:=cn) hv
 omega
theorem Fe {d:bw} (h:ld d≤1048576):Lv d where
 vl:=by unfold ld at h; omega
 bl:=by unfold ld at h; omega
 ul:=fun v hv=>by have:=DA h v hv; unfold cn at this; omega
 sl:=fun v hv=>by have:=DA h v hv; unfold cn at this; omega
 ss:=fun v hv c hc=>by
  have:=DA h v hv
  unfold cn at this
  have h2:=uo (f:=i6) hc
  unfold i6 at h2 this
  omega
 bs:=fun b hb=>by
  unfold ld at h
  have h2:=uo (f:=eX) hb
  unfold eX at h2 h
  omega
theorem KI {d:bw} (h:ld d≤1048576):J1 d:=by
 have z:=Fe h
 have h1:=z.vl
 have h2:=z.bl
 exact⟨⟨by omega,fun y hy=>⟨Q3 (z.ul y hy) (by decide),Q3 (z.sl y hy) (by decide)⟩⟩,by omega⟩
theorem ze {d:bw} (h:ko ng d) (a b:Int):u7 d a b=some ((true,()),()):=by
 rw[yB,Ix h (by decide) (by decide),M0]
 dsimp only
 by_cases a1:bj 1048576 (ld d) < 0
 ·rw[av a1]
 ·obtain⟨b1,b2⟩:=K6 a1
  have hb:ld d≤1048576:=by omega
  have hz:=Fe hb
  rw[aq a1,Iy hb,M0,KH hz]
  simp only[M0,KG hz,Iz (KI hb),bne_self_eq_false,Bool.false_eq_true,if_false,Bool.not_true]
end Go.Proofs.YtfffplonjaigkaaGreatDoor.Abs
