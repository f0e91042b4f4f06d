/- FnLca says true. -/
import Derived.Test.YtfffplonjaigkaaGreatDoorZM8
import Derived.Test.YtfffplonjaigkaaGreatDoorZM2
set_option linter.unusedVariables false
set_option linter.unusedSimpArgs false
set_option linter.unusedSectionVars false
open List.Pairwise renaming filter→aj_,nil→ab_
open Option renaming bind_some→P1
open _root_ renaming decide_eq_true→R5,if_neg→P4,if_pos→P5
namespace Go.Proofs.YtfffplonjaigkaaGreatDoor.Abs
open Go
theorem Cl {l:List Int} {y:Int} (hl:l.length≤1000000000) : ∀(ys pre:List Int),l=pre++ys→nY l y (pre.length:Int)=some ((decide (y∈ys),()),())
 | [],pre,h=>by
  rw[tX,aq (bV h)]
  simp
 | z :: ys,pre,h=>by
  rw[tX,ay (bo h),bk h,aH h (by omega),Cl hl ys _ (aI h)]
  by_cases e:z=y
  ·rw[P5 (by simpa using e)]
   simp[e]
  ·rw[P4 (by simpa using e)]
   simp[Ne.symm e]
theorem Aj {l:List Int} (hl:l.length≤1000000000) (y:Int):wm l y=some ((decide (y∈l),()),()):=by
 rw[Ig]
 exact Cl hl l [] rfl
theorem Fl {xs:List Int} (h:xs.length≤1000000000):va xs xs=some ((true,()),()):=by
 rw[Eb,P4 (by simp)]
 exact LC (B:=fun y y' k=>if(y != y')=true then some ((false,()),()) else k) (fun i=>zC) (fun y hy k=>by simp) (by omega)
noncomputable def fk (d:aV) (a:Int):List Int:=if fR d=true∧cc d.2.1 a=true then cE d.2.1 a else []
section
variable {d:aV} (hz:vR d)
include hz
theorem KS (a:Int):zj d a=some ((fk d a,()),()):=by
 have hl:=hz.vl
 rw[J2,Cf hz,P1]
 unfold fk
 cases hk:fR d with
 | false=>simp
 | true =>
  have h:=cm.1 hk
  rw[P4 (by decide),iK hl,P1]
  dsimp only
  rw[dC]
  cases ha:cc d.2.1 a with
  | false=>simp
  | true =>
   rw[P4 (by decide),vS h (eG.1 ha),P1,P5 ⟨rfl,rfl⟩]
theorem KT (a:Int):DK d a=some ((fk d a,()),()):=by
 have hl:=hz.vl
 rw[J3,kJ hz,P1]
 unfold fk
 cases hk:fR d with
 | false=>simp
 | true =>
  have h:=cm.1 hk
  rw[P4 (by decide),f2 hl,P1]
  dsimp only
  rw[dC]
  cases ha:cc d.2.1 a with
  | false=>simp
  | true =>
   rw[P4 (by decide),m8 h (eG.1 ha),P1,P5 ⟨rfl,rfl⟩]
end
theorem Fm (d:aV) (a:Int):(fk d a).length≤40:=by
 unfold fk
 split
 ·rename_i k
  exact kk (cm.1 k.1) a
 ·exact Nat.zero_le _
theorem Fo : ∀(l:List Int) (o:Int),cS [] l o=o
 | [],o=>rfl
 | z :: l,o=>by
  have e:cS [] (z :: l) o=cS [] l (if z∈([]:List Int) then z else o):=rfl
  rw[e,P4 List.not_mem_nil]
  exact Fo l o
theorem qm (d:aV) (a:Int):(fk d a).Pairwise (· < ·):=by
 unfold fk
 split
 ·rename_i k
  exact aj_ _ (cm.1 k.1).rise
 ·exact ab_
theorem yn {d:aV} {a:Int} : ∀ z∈fk d a,fR d=true∧z∈cl d.2.1∧0 < z:=by
 intro z hz
 unfold fk at hz
 split at hz
 ·rename_i k
  have h:=cm.1 k.1
  have hi:z∈cl d.2.1:=(List.mem_filter.1 hz).1
  obtain⟨v,hv,rfl⟩:=List.mem_map.1 hi
  have:=(h.id v hv).1
  exact⟨k.1,hi,by omega⟩
 ·cases hz
theorem tM (d:aV) (a b:Int):tI d a b=cS (fk d b) (fk d a) 0:=by
 unfold tI fk
 cases hk:fR d with
 | false=>simp[cS]
 | true =>
  cases ha:cc d.2.1 a with
  | false=>simp[cS]
  | true =>
   cases hb:cc d.2.1 b with
   | false =>
    rw[P4 (fun k=>by cases k.2.2),P4 (fun k=>by cases k.2)]
    exact(Fo _ _).symm
   | true=>rw[P5 ⟨rfl,rfl,rfl⟩,P5 ⟨rfl,rfl⟩,P5 ⟨rfl,rfl⟩]
theorem qn {b n:Int} {x y:List Int} (hx:x.length≤1000000) (hy:y.length≤1000000) : ∀(ys pre:List Int) (o:Int),x=pre++ys→fK b n o (pre.length:Int) x y=fK b n (ys.foldl (fun o z=>if z∈y∧o < z then z else o) o) (x.length:Int) x y
 | [],pre,o,h=>by
  have e:x.length=pre.length:=by rw[h]; simp
  rw[e]
  rfl
 | z :: ys,pre,o,h=>by
  have hg:List.getD x (Int.toNat (pre.length:Int)) 0=z:=by rw[h]; exact iW
  refine Eq.trans tY ?_
  rw[ay (bo h),fL h,hg,Aj (by omega),P1,aH h (by omega),List.foldl_cons]
  dsimp only
  by_cases h1:z∈y
  ·rw[P5 (R5 h1),fL h]
   by_cases h2:o < z
   ·rw[P5 (R5 h2),fL h,P5 ⟨h1,h2⟩]
    exact qn hx hy ys _ _ (aI h)
   ·rw[P4 (by simpa using h2),P4 (fun k=>h2 k.2)]
    exact qn hx hy ys _ _ (aI h)
  ·rw[P4 (by simpa using h1),P4 (fun k=>h1 k.1)]
   exact qn hx hy ys _ _ (aI h)
theorem KU {x:List Int} (h:x.length≤maxLen ∧ ∀ b∈x,uH (.int .u8) b):JD x=some ((true,()),()):=by
 rw[J4,Nr,P1]
 dsimp only
 by_cases hb:1048576 < (x.length:Int)
 ·rw[ay hb]
 ·rw[aq hb]
  obtain⟨⟨⟨d,a,b,u⟩,v⟩,hz,hd⟩:=Gd (Ou h hb)
  rw[hz,P1]
  dsimp only at hd ⊢
  have la:=Fm d a
  have lb:=Fm d b
  have pa : ∀ z∈fk d a,0 < z:=fun z hz=>(yn z hz).2.2
  have pb : ∀ z∈fk d b,0 < z:=fun z hz=>(yn z hz).2.2
  have comm:tI d b a=tI d a b:=by
   rw[tM,tM]
   exact(KC (qm d a) (qm d b) pa pb).symm
  simp only[Nk hd,KS hd,Nl hd,KT hd,Fl (xs:=fk d a) (by omega),P1,bne_self_eq_false,comm,Bool.not_true,Bool.false_eq_true,if_false]
  rw[show fK b (tI d a b) 0 0 (fk d a) (fk d b)=_ from qn (by omega) (by omega) (fk d a) [] 0 rfl,yi _ _ (qm d a) pa,←tM,tY,aq (Int.lt_irrefl _),Aj (by omega),P1,P5 (by simp)]
  by_cases hba:b∈fk d a
  ·rw[P4 (by simp[hba])]
   have k:=yn b hba
   have hdi:=cm.1 k.1
   have hv:cc d.2.1 b=true:=eG.2 k.2.1
   have eb:fk d b=cE d.2.1 b:=P5 ⟨k.1,hv⟩
   have hbb:b∈fk d b:=by
    rw[eb]
    exact(tH hdi k.2.1 b).2 (wC hdi k.2.1).2.2.1
   have hle : ∀ z∈fk d b,z≤b:=fun z hz=>by
    rw[eb] at hz
    exact(Nd hdi k.2.1 z ((tH hdi k.2.1 z).1 hz)).2
   rw[tM,Nc (qm d a) pa hba hbb hle]
   simp
  ·rw[P5 (by simp[hba])]
end Go.Proofs.YtfffplonjaigkaaGreatDoor.Abs
