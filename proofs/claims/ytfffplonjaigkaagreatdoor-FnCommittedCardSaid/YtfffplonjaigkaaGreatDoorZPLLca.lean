/- FnLca says true. -/
import Derived.Test.YtfffplonjaigkaaGreatDoorZM9
import Derived.Test.YtfffplonjaigkaaGreatDoorZM3
set_option linter.unusedVariables false
set_option linter.unusedSimpArgs false
set_option linter.unusedSectionVars false
open Option renaming bind_some→S1
namespace Go.Proofs.YtfffplonjaigkaaGreatDoor.Abs
open Go
theorem EE {l:List Int} {y:Int} (hl:l.length≤1000000000) : ∀(ys pre:List Int),l=pre++ys→pd l y (pre.length:Int)=some ((decide (y∈ys),()),())
 | [],pre,h=>by
  rw[vZ,ax (bQ h)]
  simp
 | z :: ys,pre,h=>by
  rw[vZ,aC (bq h),bk h,aL h (by omega),EE hl ys _ (aM h)]
  by_cases e:z=y
  ·rw[if_pos (by simpa using e)]
   simp[e]
  ·rw[if_neg (by simpa using e)]
   simp[Ne.symm e]
theorem Ly {l:List Int} (hl:l.length≤1000000000) (y:Int):CE l y=some ((decide (y∈l),()),()):=by
 rw[KT]
 exact EE hl l [] rfl
noncomputable def HM (d:aO) (a:Int):List Int:=if gG d=true∧cB d.2.1 a=true then cF d.2.1 a else []
section
variable {d:aO} (hz:q7 d)
include hz
theorem EF (a:Int):xf d a=some ((HM d a,()),()):=by
 have hl:=hz.vl
 rw[MI,lF hz,S1]
 unfold HM
 cases hk:gG d with
 | false=>simp
 | true =>
  have h:=co.1 hk
  rw[if_neg (by decide),jE hl,S1]
  dsimp only
  rw[f9]
  cases ha:cB d.2.1 a with
  | false=>simp
  | true =>
   rw[if_neg (by decide),No h (fQ.1 ha),S1,if_pos ⟨rfl,rfl⟩]
end
end Go.Proofs.YtfffplonjaigkaaGreatDoor.Abs
