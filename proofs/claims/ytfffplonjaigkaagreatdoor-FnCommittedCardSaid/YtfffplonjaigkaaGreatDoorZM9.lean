/- Plain laws of versions: finding, names; when they are right: both sides. -/
import Derived.Test.YtfffplonjaigkaaGreatDoorZM8
import Derived.Test.YtfffplonjaigkaaGreatDoorZM7
set_option linter.unusedVariables false
set_option linter.unusedSimpArgs false
set_option linter.unusedSectionVars false
open Bool renaming and_eq_true→S8,eq_iff_iff→Y7,false_eq_true→S9,true_and→W6
open ByteArray renaming toList→S2
open Go.IntKind renaming i64→ea_,wrap→dz_
open Int renaming le_refl→af_,tmod_lt_of_pos→dw_,toNat_natCast→bg_,toNat→V1
open List renaming all_cons→an_,append_assoc→X2,append_nil→W9,getD_eq_getElem?_getD→V9,getD→V5,getElem?_eq_getElem→T9,getElem?_eq_none_iff→dv_,getElem?_eq_none→Z5,getElem?_eq_some_iff→U0,getElem_mem→bf_,length_append→S5,length_cons→T3,length_map→X6,length_nil→V3,length_set→bo_,length_singleton→S3,length→T5,mem_of_getElem?→W4,mem_singleton→U4,nil_append→ag_,pairwise_singleton→am_
open List.Pairwise renaming nil→br_
open Nat renaming le_refl→T7,le_trans→W7,pow_le_pow_right→cn_,zero_le→aa_
open Option renaming bind_some→S1
open _root_ renaming ByteArray→S0,beq_iff_eq→X3,congrArg→T4,decide_eq_false→U9,decide_eq_true_eq→T0,decide_eq_true→U2,if_false→U6,if_neg→S4,if_pos→S6
namespace Go.Proofs.YtfffplonjaigkaaGreatDoor.Abs
open Go
theorem f9 (vs:List ag) (x:Int):decide (q4 vs x < 0) = !cB vs x:=by
 rw[←Av]
 by_cases h:q4 vs x < 0
 ·rw[U2 h,U9 (by omega)]
  rfl
 ·rw[U9 h,U2 (by omega)]
  rfl
theorem lj {d:aO} (hl:d.2.1.length≤1000000000) (x:Int):kY d x=some ((q4 d.2.1 x,()),()):=by
 rw[Ij]
 exact qZ (s:=d.2.1) (d:=an.dflt) (p:=fun v=>v.1 == x) (P:=fun j=>nE x j d.1 d.2.1 d.2.2.1) (F:=fun j=>some ((j,()),())) (by omega) (fun j=>CT) d.2.1 [] rfl
theorem jE {d:aO} (hl:d.2.1.length≤1000000000) (x:Int):dQ d x=some ((q4 d.2.1 x,()),()):=by
 rw[Bx,gV]
 have h:=qZ (s:=d.2.1) (d:=an.dflt) (p:=fun v=>v.1 == x) (P:=fun j=>bE d.2.1 (d.2.1.length:Int) j x) (F:=fun j=>some ((j,()),(x,()))) (by omega) (fun j=>by
  rw[gk]
  simp only[yF,S1]) d.2.1 [] rfl
 have h':bE d.2.1 (d.2.1.length:Int) 0 x=some ((q4 d.2.1 x,()),(x,())):=h
 rw[h']
 rfl
theorem Rc (b:UInt8):[97,98,99,100,101,102,103,104,105,106,107,108,109,110,111,112,113,114,115,116,117,118,119,120,121,122].contains b=(decide (97≤b.toNat) && decide (b.toNat≤122)):=by
 have : ∀ n:Fin 256,[97,98,99,100,101,102,103,104,105,106,107,108,109,110,111,112,113,114,115,116,117,118,119,120,121,122].contains (UInt8.ofNat n.val)=(decide (97≤(UInt8.ofNat n.val).toNat) && decide ((UInt8.ofNat n.val).toNat≤122)):=by decide +kernel
 have h:=this ⟨b.toNat,UInt8.toNat_lt b⟩
 simpa using h
theorem Nl (d cs:af):(Lib.trimS d cs=[])↔d.all (fun b=>cs.contains b)=true:=by
 unfold Lib.trimS Lib.trimLeftS Lib.trimRightS
 rw[jC]
 constructor
 ·intro h
  cases hr:d.reverse.dropWhile (cs.contains ·) with
  | nil =>
   rw[jC] at hr
   simpa using hr
  | cons x t =>
   have hx:=vq hr
   rw[hr] at h
   simp only[List.all_reverse,an_,S8] at h
   rw[hx] at h
   cases h.1
 ·intro h
  have:d.reverse.dropWhile (cs.contains ·)=[]:=jC.2 (by simpa using h)
  rw[this]
  rfl
theorem P6 {x c:S0} (h:nV c=true) (hx:x.size≤9223372036854775807):jv x c=some ((ba (Lib.trimS (lb x) (lb c)),()),()):=by
 rw[ry]
 exact S6 ⟨h,hx⟩
theorem Hn {x:S0} (h:x.size≤9223372036854775807):CD x=some ((mE x,()),()):=by
 rw[KR]
 unfold mE
 by_cases h1:1≤x.size
 ·rw[aC (by omega),U2 h1]
  by_cases h2:x.size≤12
  ·rw[aC (by omega),U2 h2,show(⟨#[97,98,99,100,101,102,103,104,105,106,107,108,109,110,111,112,113,114,115,116,117,118,119,120,121,122]⟩:S0)=ba [97,98,99,100,101,102,103,104,105,106,107,108,109,110,111,112,113,114,115,116,117,118,119,120,121,122] from rfl,P6 (by decide +kernel) h,S1,dq]
   have e0 : ∀ x:af,(S2 (ba x) == S2 (⟨#[]⟩:S0))=decide (x=[]):=fun x=>di (b:=[])
   dsimp only
   rw[e0]
   congr 3
   rw[W6,W6,Y7,T0,Nl]
   rw[show(fun b:UInt8=>List.contains [97,98,99,100,101,102,103,104,105,106,107,108,109,110,111,112,113,114,115,116,117,118,119,120,121,122] b)=fun b=>(decide (97≤b.toNat) && decide (b.toNat≤122)) from funext Rc]
  ·rw[ax (by omega),U9 h2]
   rfl
 ·rw[ax (by omega),U9 h1]
  rfl
theorem Ch {l:af} (hl:l.length≤1000) : ∀(ys pre:af),l=pre++ys→nG (ba l) (pre.length:Int)=some ((ys.all (fun b=>decide (97≤b.toNat) && decide (b.toNat≤122)),()),())
 | [],pre,h=>by
  rw[tF,aN,ax (bQ h)]
  rfl
 | y :: ys,pre,h=>by
  rw[tF,aN,aC (bq h),gm h,gm h,aL h (by omega),Ch hl ys _ (aM h),an_]
  by_cases h1:y.toNat < 97
  ·rw[aC (by omega),U9 (by omega)]
   simp
  ·rw[ax (by omega),U2 (p:=97≤y.toNat) (by omega)]
   by_cases h2:122 < y.toNat
   ·rw[aC (by omega),U9 (by omega)]
    simp
   ·rw[ax (by omega),U2 (p:=y.toNat≤122) (by omega)]
    simp
theorem Az {x:S0} (h:x.size≤9223372036854775807):uM x=some ((mE x,()),()):=by
 rw[Ik]
 unfold mE
 by_cases h1:1≤x.size
 ·rw[ax (by omega),U2 h1]
  by_cases h2:x.size≤12
  ·rw[ax (by omega),U2 h2]
   have:=Ch (l:=lb x) (by rw[yn]; omega) (lb x) [] rfl
   rw[jc] at this
   exact this
  ·rw[aC (by omega),U9 h2]
   simp
 ·rw[aC (by omega),U9 h1]
  simp
structure q7 (d:aO):Prop where
 vl:d.2.1.length≤1000000000
 bl:d.2.2.1.length≤1000000000
 ul : ∀ v∈d.2.1,v.2.1.length≤1000000000
 sl : ∀ v∈d.2.1,v.2.2.1.length≤1000000000
 ss : ∀ v∈d.2.1,∀ c∈v.2.2.1,c.2.1.size≤9223372036854775807
 bs : ∀ b∈d.2.2.1,b.1.size≤9223372036854775807
theorem pA {α β:Type} {s q ys:List α} {z y d:α} {f:α→Option β} (h:s=(q++[z])++y :: ys) (hl:s.length≤1000000000000):ix s (dz_ ea_ (((q++[z]).length:Int) - 1)) d f=f z:=by
 have hq:((q++[z]).length:Int) - 1=(q.length:Int):=by simp
 have hlt:q.length < s.length:=by rw[h]; simp
 rw[hq,wr (by omega) (by omega)]
 exact bk (pre:=q) (ys:=y :: ys) (by rw[h]; simp)
section
variable {d:aO} (hz:q7 d)
include hz
theorem JE {us:List Int} (hu:us.length≤1000000000) (id:Int):oZ d us id=some ((q5 d.2.1 id us && decide (us.length≤2),()),()):=by
 rw[EX]
 have h:=py (ok:=fun u=>decide (u < id) && cB d.2.1 u) (lt:=fun a b:Int=>decide (a < b)) (s:=us) (P:=fun j=>dE us id us (us.length:Int) j d.1 d.2.1 d.2.2.1) (T:=some ((decide (us.length≤2),()),())) (F:=some ((false,()),()))
  (by
   show dE us id us (us.length:Int) (us.length:Int) d.1 d.2.1 d.2.2.1=_
   rw[k8,ax (by omega)]
   congr 3
   rw[Y7,T0,T0]
   omega)
  (fun y ys h=>by
   show dE us id us (us.length:Int) (([]:List Int).length:Int) d.1 d.2.1 d.2.2.1=_
   rw[k8,aC (bq (pre:=[]) h),bk (pre:=[]) h,aL (pre:=[]) h (by omega),show((d.1,d.2.1,d.2.2.1,()):aO)=d from rfl,jE hz.vl,S1]
   dsimp only
   rw[f9]
   by_cases h1:y < id
   ·rw[ax (by omega),U2 h1]
    cases cB d.2.1 y with
    | false=>simp
    | true =>
     rw[S4 (by decide)]
     rw[ax (by simp)]
     simp
   ·rw[aC (by omega),U9 h1]
    simp)
  (fun q z y ys h=>by
   show dE us id us (us.length:Int) ((q++[z]).length:Int) d.1 d.2.1 d.2.2.1=_
   rw[k8,aC (bq h),bk h,aL h (by omega),show((d.1,d.2.1,d.2.2.1,()):aO)=d from rfl,jE hz.vl,S1]
   dsimp only
   rw[f9]
   by_cases h1:y < id
   ·rw[ax (by omega),U2 h1]
    cases cB d.2.1 y with
    | false=>simp
    | true =>
     rw[S4 (by decide)]
     rw[aC (by rw[S5,S3]; omega),pA h (by omega)]
     by_cases h2:z < y
     ·rw[ax (by omega),U2 h2]
      simp
     ·rw[aC (by omega),U9 h2]
      simp
   ·rw[aC (by omega),U9 h1]
    simp)
 have h':dE us id us (us.length:Int) 0 d.1 d.2.1 d.2.2.1=_:=h
 rw[h']
 show(if q5 d.2.1 id us=true then _ else _)=_
 cases q5 d.2.1 id us <;> simp
theorem Nm:eB d.2.2.1 (d.2.2.1.length:Int) 0 d.1 d.2.1 d.2.2.1=some ((sE d.2.1 d.2.2.1,()),()):=by
 have hb:=hz.bl
 have h:=py (ok:=fun b:ah=>mE b.1 && cB d.2.1 b.2.1) (lt:=fun a b:ah=>fV a.1 b.1) (s:=d.2.2.1) (P:=fun j=>eB d.2.2.1 (d.2.2.1.length:Int) j d.1 d.2.1 d.2.2.1) (T:=some ((true,()),())) (F:=some ((false,()),()))
  (by
   show eB d.2.2.1 (d.2.2.1.length:Int) (d.2.2.1.length:Int) d.1 d.2.1 d.2.2.1=_
   rw[oC,ax (by omega)])
  (fun y ys h=>by
   show eB d.2.2.1 (d.2.2.1.length:Int) (([]:List ah).length:Int) d.1 d.2.1 d.2.2.1=_
   rw[oC,aC (bq (pre:=[]) h),bk (pre:=[]) h,aL (pre:=[]) h (by omega),show((d.1,d.2.1,d.2.2.1,()):aO)=d from rfl,Hn (hz.bs y (by rw[h]; simp)),S1,jE hz.vl,S1]
   dsimp only
   rw[f9]
   cases mE y.1 with
   | false=>simp
   | true =>
    rw[S4 (by decide)]
    rw[ax (by simp)]
    cases cB d.2.1 y.2.1 <;> simp)
  (fun q z y ys h=>by
   show eB d.2.2.1 (d.2.2.1.length:Int) ((q++[z]).length:Int) d.1 d.2.1 d.2.2.1=_
   rw[oC,aC (bq h),bk h,aL h (by omega),show((d.1,d.2.1,d.2.2.1,()):aO)=d from rfl,Hn (hz.bs y (by rw[h]; simp)),S1,jE hz.vl,S1]
   dsimp only
   rw[f9]
   cases mE y.1 with
   | false=>simp
   | true =>
    rw[S4 (by decide)]
    rw[aC (by rw[S5,S3]; omega),pA h (by omega)]
    show(if(!fV z.1 y.1)=true then _ else _)=_
    cases fV z.1 y.1 <;> cases cB d.2.1 y.2.1 <;> simp)
 have h':eB d.2.2.1 (d.2.2.1.length:Int) 0 d.1 d.2.1 d.2.2.1=_:=h
 rw[h']
 show(if sE d.2.1 d.2.2.1=true then _ else _)=_
 cases sE d.2.1 d.2.2.1 <;> rfl
theorem lF:n4 d=some ((gG d,()),()):=by
 have hv:=hz.vl
 have hb:=hz.bl
 rw[MH,eC,S1]
 dsimp only
 unfold gG
 cases h1:cl d.1 2 1000000000 with
 | false=>simp
 | true =>
  have hn:=bU.1 h1
  rw[S4 (by decide),eC,S1]
  dsimp only
  cases h2:cl (d.2.1.length:Int) 1 40 with
  | false=>simp
  | true =>
   rw[S4 (by decide),eC,S1]
   dsimp only
   cases h3:cl (d.2.2.1.length:Int) 1 8 with
   | false=>simp
   | true =>
    rw[S4 (by decide)]
    have h:=py (ok:=xR d.2.1 d.1) (lt:=fun a b:ag=>decide (a.1 < b.1)) (s:=d.2.1) (P:=fun j=>gj d.2.1 (d.2.1.length:Int) j d.1 d.2.1 d.2.2.1) (T:=some ((sE d.2.1 d.2.2.1,()),())) (F:=some ((false,()),()))
     (by
      show gj d.2.1 (d.2.1.length:Int) (d.2.1.length:Int) d.1 d.2.1 d.2.2.1=_
      rw[qH,ax (by omega)]
      exact Nm hz)
     (fun y ys h=>by
      have hy:y∈d.2.1:=by rw[h]; simp
      show gj d.2.1 (d.2.1.length:Int) (([]:List ag).length:Int) d.1 d.2.1 d.2.2.1=_
      rw[qH,aC (bq (pre:=[]) h),bk (pre:=[]) h,aL (pre:=[]) h (by omega),show((d.1,d.2.1,d.2.2.1,()):aO)=d from rfl,wr (n:=d.1 - 1) (by omega) (by omega)]
      simp only[eC,S1,JE hz (hz.ul y hy),sA (hz.ss y hy) (hz.sl y hy)]
      unfold xR
      rw[ax (by simp)]
      cases cl y.1 1 (d.1 - 1) <;> cases q5 d.2.1 y.1 y.2.1 <;> cases bi y.2.2.1 <;> by_cases hl:y.2.1.length≤2 <;> simp[hl])
     (fun q z y ys h=>by
      have hy:y∈d.2.1:=by rw[h]; simp
      show gj d.2.1 (d.2.1.length:Int) ((q++[z]).length:Int) d.1 d.2.1 d.2.2.1=_
      rw[qH,aC (bq h),bk h,aL h (by omega),show((d.1,d.2.1,d.2.2.1,()):aO)=d from rfl,wr (n:=d.1 - 1) (by omega) (by omega)]
      simp only[eC,S1,JE hz (hz.ul y hy),sA (hz.ss y hy) (hz.sl y hy)]
      unfold xR
      rw[aC (by rw[S5,S3]; omega),pA h (by omega)]
      by_cases h2:z.1 < y.1
      ·rw[ax (by omega),U2 h2]
       cases cl y.1 1 (d.1 - 1) <;> cases q5 d.2.1 y.1 y.2.1 <;> cases bi y.2.2.1 <;> by_cases hl:y.2.1.length≤2 <;> simp[hl]
      ·rw[aC (by omega),U9 h2]
       cases cl y.1 1 (d.1 - 1) <;> simp)
    have h':gj d.2.1 (d.2.1.length:Int) 0 d.1 d.2.1 d.2.2.1=_:=h
    rw[h']
    show(if Dc d.2.1 d.1=true then _ else _)=_
    cases Dc d.2.1 d.1 <;> simp
theorem Nn:eA 0 d.1 d.2.1 d.2.2.1=some ((sE d.2.1 d.2.2.1,()),()):=by
 have hb:=hz.bl
 have h:=py (ok:=fun b:ah=>mE b.1 && cB d.2.1 b.2.1) (lt:=fun a b:ah=>fV a.1 b.1) (s:=d.2.2.1) (P:=fun j=>eA j d.1 d.2.1 d.2.2.1) (T:=some ((true,()),())) (F:=some ((false,()),()))
  (by
   show eA (d.2.2.1.length:Int) d.1 d.2.1 d.2.2.1=_
   rw[oB,ax (by omega)])
  (fun y ys h=>by
   show eA (([]:List ah).length:Int) d.1 d.2.1 d.2.2.1=_
   rw[oB,aC (bq (pre:=[]) h),bk (pre:=[]) h,aL (pre:=[]) h (by omega),show((d.1,d.2.1,d.2.2.1,()):aO)=d from rfl,Az (hz.bs y (by rw[h]; simp)),S1,lj hz.vl,S1]
   dsimp only
   rw[f9]
   cases mE y.1 with
   | false=>simp
   | true =>
    rw[S4 (by decide)]
    rw[ax (by simp)]
    cases cB d.2.1 y.2.1 <;> simp)
  (fun q z y ys h=>by
   show eA ((q++[z]).length:Int) d.1 d.2.1 d.2.2.1=_
   rw[oB,aC (bq h),bk h,aL h (by omega),show((d.1,d.2.1,d.2.2.1,()):aO)=d from rfl,Az (hz.bs y (by rw[h]; simp)),S1,lj hz.vl,S1]
   dsimp only
   rw[f9]
   cases mE y.1 with
   | false=>simp
   | true =>
    rw[S4 (by decide)]
    rw[aC (by rw[S5,S3]; omega),pA h (by omega)]
    show(if(!cB d.2.1 y.2.1)=true then _ else if(!fV z.1 y.1)=true then _ else _)=_
    cases fV z.1 y.1 <;> cases cB d.2.1 y.2.1 <;> simp)
 have h':eA 0 d.1 d.2.1 d.2.2.1=_:=h
 rw[h']
 show(if sE d.2.1 d.2.2.1=true then _ else _)=_
 cases sE d.2.1 d.2.2.1 <;> rfl
theorem Et {us:List Int} (hu:us.length≤1000000000) (i id:Int) (sh:List ac):ez i 0 d.1 d.2.1 d.2.2.1 id us sh=if q5 d.2.1 id us=true then ft (dz_ ea_ (i+1)) d.1 d.2.1 d.2.2.1 else some ((false,()),()):=by
 have h:=py (ok:=fun u=>decide (u < id) && cB d.2.1 u) (lt:=fun a b:Int=>decide (a < b)) (s:=us) (P:=fun j=>ez i j d.1 d.2.1 d.2.2.1 id us sh) (T:=ft (dz_ ea_ (i+1)) d.1 d.2.1 d.2.2.1) (F:=some ((false,()),()))
  (by
   show ez i (us.length:Int) d.1 d.2.1 d.2.2.1 id us sh=_
   rw[oA,ax (by omega)])
  (fun y ys h=>by
   show ez i (([]:List Int).length:Int) d.1 d.2.1 d.2.2.1 id us sh=_
   rw[oA,aC (bq (pre:=[]) h)]
   simp only[bk (pre:=[]) h]
   rw[aL (pre:=[]) h (by omega),show((d.1,d.2.1,d.2.2.1,()):aO)=d from rfl,lj hz.vl,S1]
   dsimp only
   rw[f9]
   by_cases h1:y < id
   ·rw[ax (by omega),U2 h1]
    cases cB d.2.1 y with
    | false=>simp
    | true =>
     rw[S4 (by decide)]
     rw[ax (by simp)]
     simp
   ·rw[aC (by omega),U9 h1]
    simp)
  (fun q z y ys h=>by
   show ez i ((q++[z]).length:Int) d.1 d.2.1 d.2.2.1 id us sh=_
   rw[oA,aC (bq h)]
   simp only[bk h]
   rw[aL h (by omega),show((d.1,d.2.1,d.2.2.1,()):aO)=d from rfl,lj hz.vl,S1]
   dsimp only
   rw[f9]
   by_cases h1:y < id
   ·rw[ax (by omega),U2 h1]
    cases cB d.2.1 y with
    | false=>simp
    | true =>
     rw[S4 (by decide)]
     rw[aC (by rw[S5,S3]; omega),pA h (by omega)]
     by_cases h2:z < y
     ·rw[ax (by omega),U2 h2]
      simp
     ·rw[aC (by omega),U9 h2]
      simp
   ·rw[aC (by omega),U9 h1]
    simp)
 exact h
theorem om:tk d=some ((gG d,()),()):=by
 have hv:=hz.vl
 have hb:=hz.bl
 rw[MA,jA,S1]
 dsimp only
 unfold gG
 cases h1:cl d.1 2 1000000000 with
 | false=>simp
 | true =>
  have hn:=bU.1 h1
  rw[S4 (by decide)]
  cases h2:cl (d.2.1.length:Int) 1 40 with
  | false =>
   have h2' : ¬((1:Int)≤(d.2.1.length:Int)∧(d.2.1.length:Int)≤40):=fun h=>by rw[bU.2 h] at h2; cases h2
   by_cases h4:(d.2.1.length:Int) < 1
   ·rw[aC h4]
    simp
   ·rw[ax h4,aC (by omega)]
    simp
  | true =>
   have h2':=bU.1 h2
   rw[ax (by omega),ax (by omega)]
   cases h3:cl (d.2.2.1.length:Int) 1 8 with
   | false =>
    have h3' : ¬((1:Int)≤(d.2.2.1.length:Int)∧(d.2.2.1.length:Int)≤8):=fun h=>by rw[bU.2 h] at h3; cases h3
    by_cases h4:(d.2.2.1.length:Int) < 1
    ·rw[aC h4]
     simp
    ·rw[ax h4,aC (by omega)]
     simp
   | true =>
    have h3':=bU.1 h3
    rw[ax (by omega),ax (by omega)]
    have h:=py (ok:=xR d.2.1 d.1) (lt:=fun a b:ag=>decide (a.1 < b.1)) (s:=d.2.1) (P:=fun j=>ft j d.1 d.2.1 d.2.2.1) (T:=some ((sE d.2.1 d.2.2.1,()),())) (F:=some ((false,()),()))
     (by
      show ft (d.2.1.length:Int) d.1 d.2.1 d.2.2.1=_
      rw[qC,ax (by omega)]
      exact Nn hz)
     (fun y ys h=>by
      have hy:y∈d.2.1:=by rw[h]; simp
      show ft (([]:List ag).length:Int) d.1 d.2.1 d.2.2.1=_
      rw[qC,aC (bq (pre:=[]) h),bk (pre:=[]) h,wr (n:=d.1 - 1) (by omega) (by omega)]
      simp only[jA,S1,Et hz (hz.ul y hy),eE (hz.ss y hy) (by have:=hz.sl y hy; omega)]
      rw[aL (pre:=[]) h (by omega)]
      unfold xR
      rw[ax (by simp)]
      cases cl y.1 1 (d.1 - 1) <;> cases q5 d.2.1 y.1 y.2.1 <;> cases bi y.2.2.1 <;> by_cases hl:y.2.1.length≤2 <;> simp[hl] <;> omega)
     (fun q z y ys h=>by
      have hy:y∈d.2.1:=by rw[h]; simp
      show ft ((q++[z]).length:Int) d.1 d.2.1 d.2.2.1=_
      rw[qC,aC (bq h),bk h,wr (n:=d.1 - 1) (by omega) (by omega)]
      simp only[jA,S1,Et hz (hz.ul y hy),eE (hz.ss y hy) (by have:=hz.sl y hy; omega)]
      rw[aL h (by omega)]
      unfold xR
      rw[aC (by rw[S5,S3]; omega),pA h (by omega)]
      by_cases h2:z.1 < y.1
      ·rw[ax (by omega),U2 h2]
       cases cl y.1 1 (d.1 - 1) <;> cases q5 d.2.1 y.1 y.2.1 <;> cases bi y.2.2.1 <;> by_cases hl:y.2.1.length≤2 <;> simp[hl] <;> omega
      ·rw[aC (by omega),U9 h2]
       cases cl y.1 1 (d.1 - 1) <;> simp)
    have h':ft 0 d.1 d.2.1 d.2.2.1=_:=h
    rw[h']
    show(if Dc d.2.1 d.1=true then _ else _)=_
    cases Dc d.2.1 d.1 <;> simp
end
theorem P7 {l:List Int} (hl:l.length≤1000000000) (y:Int):dZ l y=some ((decide (y∈l),()),()):=by
 have h:cr l y (l.length:Int) 0=some ((qY (fun z=>y == z) l 0,()),()):=qZ (s:=l) (d:=0) (p:=fun z=>y == z) (P:=fun j=>cr l y (l.length:Int) j) (F:=fun j=>some ((j,()),())) (by omega) (fun j=>k9) l [] rfl
 rw[k7,my,h]
 simp only[S1,vy]
 have e:(l.any fun z=>y == z)=decide (y∈l):=by
  rw[Y7,List.any_eq_true,T0]
  constructor
  ·rintro⟨z,hz,h⟩
   rw[X3] at h
   rw[h]
   exact hz
  ·intro h
   exact⟨y,h,by simp⟩
 rw[e]
theorem Eu {l:List Int} {y:Int} (hl:l.length≤1000000000) : ∀(ys pre:List Int),l=pre++ys→o7 l y (pre.length:Int)=some ((decide (y∈ys),()),())
 | [],pre,h=>by
  rw[vV,ax (bQ h)]
  simp
 | z :: ys,pre,h=>by
  rw[vV,aC (bq h),bk h,aL h (by omega),Eu hl ys _ (aM h)]
  by_cases e:z=y
  ·rw[S6 (by simpa using e)]
   simp[e]
  ·rw[S4 (by simpa using e)]
   simp[Ne.symm e]
theorem t6 {l:List Int} (hl:l.length≤1000000000) (y:Int):mW l y=some ((decide (y∈l),()),()):=by
 rw[KG]
 exact Eu hl l [] rfl
theorem Ho {vs:List ag} {x:Int} (hx:cB vs x=true) : ∃ v∈vs,v.1=x ∧ ∀ {β:Type} (d:ag) (F:ag→Option β),ix vs (q4 vs x) d F=F v:=by
 have h0:q4 vs x ≠ -1:=by
  have:=Av (vs:=vs) (id:=x)
  rw[hx,T0] at this
  omega
 obtain⟨pre,v,ys,h1,h2,h3,h4⟩:=Db h0
 refine⟨v,by rw[h1]; simp,by simpa using h2,fun d F => ?_⟩
 have h5:q4 vs x=(pre.length:Int):=by
  rw[show q4 vs x=_ from h4]
  simp
 rw[h5]
 exact bk h1
theorem Hp {l:List Int} (hl:l.length≤1000000000):eL l=some ((),l.mergeSort (fun x y=>decide (x≤y)),()):=by
 rw[mh]
 unfold lu
 simp only[ef?,dite_true,S1]
 exact S6 (by omega)
section
variable {d:aO} (h:bS d)
include h
theorem yB:(ct d.2.1).length≤40:=by
 unfold ct
 rw[X6]
 exact h.vl.2
theorem yC {out:List Int} (hd:out.Nodup) (hs : ∀ x∈out,x∈ct d.2.1):out.length≤40:=W7 (ol _ _ hd hs) (yB h)
omit h in
theorem De {k:Int} {us:List Int} (hu:us.length≤1000) : ∀(ys pre out:List Int),us=pre++ys→out.length+ys.length≤1000000→f2 k us (us.length:Int) (pre.length:Int) d.1 d.2.1 d.2.2.1 out=iI (dz_ ea_ (k+1)) d.1 d.2.1 d.2.2.1 (iB out ys)
 | [],pre,out,e,hb=>by
  rw[qK,ax (bQ e)]
  rfl
 | y :: ys,pre,out,e,hb=>by
  rw[T3] at hb
  rw[qK,aC (bq e),bk e,aL e (by omega),P7 (by omega),S1,Ng]
  dsimp only
  by_cases hy:y∈out
  ·rw[S4 (by simp[hy]),S6 hy]
   exact De hu ys _ out (aM e) (by omega)
  ·rw[S6 (by simp[hy]),S4 hy,bA (by simp only[S3]; omega)]
   exact De hu ys _ _ (aM e) (by simp only[S5,S3]; omega)
theorem Hq {out:List Int} {k:Nat} {x:Int} (hs : ∀ z∈out,z∈ct d.2.1) (hk:out[k]? = some x) : ∃ v∈d.2.1,v.1=x∧v.2.1=rO d.2.1 x ∧ ∀ {β:Type} (e:ag) (F:ag→Option β),ix d.2.1 (q4 d.2.1 x) e F=F v:=by
 obtain⟨v,hv,e,hF⟩:=Ho (fQ.2 (hs x (W4 hk)))
 exact⟨v,hv,e,by rw[←e,tZ h.vr hv],hF⟩
theorem Hr {out:List Int} {x:Int} (hd:out.Nodup) (hs : ∀ z∈out,z∈ct d.2.1) (hx:x∈ct d.2.1):(iB out (rO d.2.1 x)).Nodup ∧ ∀ z∈iB out (rO d.2.1 x),z∈ct d.2.1 :=
 ⟨pj _ _ hd,fun z hz=>((lh _ _ _).1 hz).elim (hs z) (h.closed x hx z)⟩
theorem Hs : ∀(n k:Nat) (out:List Int),out.Nodup→(∀ x∈out,x∈ct d.2.1)→(ct d.2.1).length≤k+n→k≤1000→iI (k:Int) d.1 d.2.1 d.2.2.1 out=some (((mv (rO d.2.1) n k out).mergeSort (fun x y=>decide (x≤y)),()),())
 | 0,k,out,hd,hs,hn,hk=>by
  have:=ol _ _ hd hs
  have hl:=yC h hd hs
  rw[lc,ax (by omega),Hp (by omega)]
  rfl
 | n+1,k,out,hd,hs,hn,hk=>by
  have hl:=yC h hd hs
  unfold mv
  cases hx:out[k]? with
  | none =>
   have:out.length≤k:=dv_.1 hx
   rw[lc,ax (by omega),Hp (by omega)]
   rfl
  | some x =>
   have hlt:=(U0.1 hx).1
   obtain⟨v,hv,e1,e2,hF⟩:=Hq h hs hx
   have hg:V5 out (V1 (k:Int)) 0=x:=by
    rw[bg_,V9,hx]
    rfl
   have hup:=(h.up v hv).1
   have hn1:=Hr h hd hs (hs x (W4 hx))
   rw[lc,aC (by omega),jz (nn _) (by omega),show((d.1,d.2.1,d.2.2.1,()):aO)=d from rfl,jE (by have:=h.vl; omega),S1,hg]
   dsimp only
   rw[hF,show f2 (k:Int) v.2.1 (v.2.1.length:Int) 0 d.1 d.2.1 d.2.2.1 out=_ from De (k:=(k:Int)) (us:=v.2.1) (by omega) v.2.1 [] out rfl (by omega),oQ (n:=(k:Int)+1) (by omega) (by omega),e2]
   exact Hs n (k+1) _ hn1.1 hn1.2 (by omega) (by have:=yB h; omega)
theorem No {a:Int} (ha:a∈ct d.2.1):uX d a=some ((cF d.2.1 a,()),()):=by
 have e:=Hs h (d.2.1.length+1) 0 [a] (by simp) (fun x hx=>by rw[U4.1 hx]; exact ha) (by unfold ct; rw[X6]; omega) (by omega)
 rw[E8]
 refine Eq.trans e ?_
 rw[←O1 h ha]
 rfl
omit h in
theorem Df {k:Int} {id:Int} {us:List Int} {sh:List ac} (hu:us.length≤1000) : ∀(ys pre out:List Int),us=pre++ys→out.length+ys.length≤1000000→gR k (pre.length:Int) d.1 d.2.1 d.2.2.1 out id us sh=jw (dz_ ea_ (k+1)) d.1 d.2.1 d.2.2.1 (iB out ys)
 | [],pre,out,e,hb=>by
  rw[rC,ax (bQ e)]
  rfl
 | y :: ys,pre,out,e,hb=>by
  rw[T3] at hb
  rw[rC,aC (bq e),bk e,aL e (by omega),t6 (by omega),S1,Ng]
  dsimp only
  by_cases hy:y∈out
  ·rw[S4 (by simp[hy]),S6 hy]
   exact Df hu ys _ out (aM e) (by omega)
  ·rw[S6 (by simp[hy]),S4 hy,bk e,bA (by simp only[S3]; omega)]
   exact Df hu ys _ _ (aM e) (by simp only[S5,S3]; omega)
omit h in
theorem vz {st:List Int} (hl:d.2.1.length≤1000000) (hs:st.length≤1000000) : ∀(ys pre:List ag) (acc:List Int),d.2.1=pre++ys→acc.length≤pre.length→iK (pre.length:Int) d.1 d.2.1 d.2.2.1 st acc=some ((acc++(ct ys).filter (fun x=>decide (x∈st)),()),())
 | [],pre,acc,e,hb=>by
  rw[qJ,ax (bQ e)]
  simp[ct]
 | y :: ys,pre,acc,e,hb=>by
  have hlen:d.2.1.length=pre.length+(ys.length+1):=by rw[e]; simp
  rw[qJ,aC (bq e),bk e,t6 (by omega),S1,aL e (by omega)]
  dsimp only
  by_cases hy:y.1∈st
  ·rw[S6 (by simp[hy]),bk e,bA (by simp only[S3]; omega),vz hl hs ys _ _ (aM e) (by simp only[S5,S3]; omega)]
   simp[ct,hy]
  ·rw[S4 (by simp[hy]),vz hl hs ys _ _ (aM e) (by simp only[S5,S3]; omega)]
   simp[ct,hy]
theorem Ht : ∀(n k:Nat) (out:List Int),out.Nodup→(∀ x∈out,x∈ct d.2.1)→(ct d.2.1).length≤k+n→k≤1000→jw (k:Int) d.1 d.2.1 d.2.2.1 out=some (((ct d.2.1).filter (fun x=>decide (x∈mv (rO d.2.1) n k out)),()),())
 | 0,k,out,hd,hs,hn,hk=>by
  have:=ol _ _ hd hs
  have hl:=yC h hd hs
  have hv:=h.vl
  rw[mi,ax (by omega)]
  exact vz (d:=d) (by omega) (by omega) d.2.1 [] [] rfl (T7 _)
 | n+1,k,out,hd,hs,hn,hk=>by
  have hl:=yC h hd hs
  have hvl:=h.vl
  unfold mv
  cases hx:out[k]? with
  | none =>
   have:out.length≤k:=dv_.1 hx
   rw[mi,ax (by omega)]
   exact vz (d:=d) (by omega) (by omega) d.2.1 [] [] rfl (T7 _)
  | some x =>
   have hlt:=(U0.1 hx).1
   obtain⟨v,hv,e1,e2,hF⟩:=Hq h hs hx
   have hg:V5 out (V1 (k:Int)) 0=x:=by
    rw[bg_,V9,hx]
    rfl
   have hup:=(h.up v hv).1
   have hn1:=Hr h hd hs (hs x (W4 hx))
   rw[mi,aC (by omega),jz (nn _) (by omega),show((d.1,d.2.1,d.2.2.1,()):aO)=d from rfl,lj (by omega),S1,hg]
   dsimp only
   rw[hF,show gR (k:Int) 0 d.1 d.2.1 d.2.2.1 out v.1 v.2.1 v.2.2.1=_ from Df (d:=d) (k:=(k:Int)) (us:=v.2.1) (by omega) v.2.1 [] out rfl (by omega),oQ (n:=(k:Int)+1) (by omega) (by omega),e2]
   exact Ht n (k+1) _ hn1.1 hn1.2 (by omega) (by have:=yB h; omega)
theorem rP {a:Int} (ha:a∈ct d.2.1):lw d a=some ((cF d.2.1 a,()),()):=by
 have e:=Ht h (d.2.1.length+1) 0 [a] (by simp) (fun x hx=>by rw[U4.1 hx]; exact ha) (by unfold ct; rw[X6]; omega) (by omega)
 rw[Gn]
 exact e
theorem q8 (a:Int):(cF d.2.1 a).length≤40:=W7 (List.length_filter_le _ _) (yB h)
omit h in
theorem xS {x y:List Int} (hx:x.length≤1000000) (hy:y.length≤1000000) : ∀(ys pre:List Int) (o:Int),x=pre++ys→me o (pre.length:Int) x y=some ((oI y ys o,()),())
 | [],pre,o,e=>by
  rw[vW,ax (bQ e)]
  rfl
 | z :: ys,pre,o,e=>by
  have hg:V5 x (V1 (pre.length:Int)) 0=z:=by rw[e]; exact jO
  rw[vW,aC (bq e)]
  simp only[fN e,hg]
  rw[t6 (by omega),S1,aL e (by omega)]
  dsimp only
  have el:oI y (z :: ys) o=oI y ys (if z∈y then z else o):=rfl
  rw[el]
  by_cases hz:z∈y
  ·rw[S6 (by simp[hz]),S6 hz]
   exact xS hx hy ys _ _ (aM e)
  ·rw[S4 (by simp[hz]),S4 hz]
   exact xS hx hy ys _ _ (aM e)
theorem P8 {a b:Int} (ha:a∈ct d.2.1) (hb:b∈ct d.2.1):CA d a b=some ((oI (cF d.2.1 b) (cF d.2.1 a) 0,()),()):=by
 have h1:=q8 h a
 have h2:=q8 h b
 rw[KH,rP h ha,S1,rP h hb,S1]
 dsimp only
 exact xS (by omega) (by omega) _ [] 0 rfl
end
section
variable {d:aO} (hz:q7 d)
include hz
end
theorem P9 {α β:Type} {pre ys:List α} {y:α} {k:Option β}:inb (pre++y :: ys) (pre.length:Int) k=k:=fN rfl
theorem Dg {α β:Type} {pre ys:List α} {y d:α} {f:α→α} {k:List α→β}:uv d (pre++y :: ys) (pre.length:Int) f k=k (pre++f y :: ys):=by
 unfold uv
 rw[jO,QC]
theorem Sp {a b:S0}:(S2 a == S2 b)=decide (a=b):=j0
theorem Sq {a:S0}:(S2 a == S2 (⟨#[]⟩:S0))=decide (a=eS):=j0
section
variable {l:List aV} (hl:l.length≤360) (hsz : ∀ c∈l,c.2.2.1.size≤9223372036854775807)
include hl hsz
end
section
variable {s:List ac} {l:List aV} (hs : ∀ c∈s,c.2.1.size≤9223372036854775807) (hsl:s.length≤1000000000) (hsz : ∀ c∈l,c.2.2.1.size≤9223372036854775807)
include hs hsl hsz
end
section
variable {ls:List (List ac)} (hls:ls.length≤10)
include hls
end
section
variable {a b:List ac} (ha:a.length≤2000000) (hb:b.length≤2000000)
include ha hb
end
noncomputable def Re (a b:List ac):List aV:=if bi a=true∧bi b=true then rM a b else []
section
variable {a b:List ac} (ha:a.length≤2000000) (hb:b.length≤2000000) (hsa : ∀ c∈a,c.2.1.size≤9223372036854775807) (hsb : ∀ c∈b,c.2.1.size≤9223372036854775807)
include ha hb hsa hsb
omit hsa hsb in
theorem g9 : ∀(l m pl pm:List ac) (acc:List aV),a=pl++l→b=pm++m→acc.length+l.length+m.length≤100000000→aZ a b (pl.length:Int) (pm.length:Int) acc=some ((acc++iO l m,()),())
 | [],[],pl,pm,acc,h1,h2,hc=>by
  rw[kN,ax (bQ h1),ax (bQ h2)]
  unfold iO
  simp
 | x :: l,[],pl,pm,acc,h1,h2,hc=>by
  rw[T3] at hc
  have hk:((pm.length:Int) == (b.length:Int))=true:=by rw[h2]; simp
  have ih:=fun acc hc=>g9 l [] (pl++[x]) pm acc (aM h1) h2 hc
  have hdf:iO (x :: l) []=cC (x.1,x.2.1,eS,()) (iO l []):=by conv=>lhs; unfold iO
  rw[kN,aC (bq h1),S6 hk,bk h1,bk h1,Sq,aL h1 (by omega),bA (by simp only[S3]; omega),ih _ (by first | omega | (simp only[S5,S3,V3,T3] at hc ⊢; omega)),ih _ (by first | omega | (simp only[S5,S3,V3,T3] at hc ⊢; omega)),hdf]
  unfold cC
  by_cases e:x.2.1=eS <;> simp[e]
 | [],y :: m,pl,pm,acc,h1,h2,hc=>by
  rw[T3] at hc
  have hi:((pl.length:Int) == (a.length:Int))=true:=by rw[h1]; simp
  have hk : ¬((pm.length:Int) == (b.length:Int))=true:=by
   have:=bq h2
   simp only[X3]
   omega
  have ih:=fun acc hc=>g9 [] m pl (pm++[y]) acc h1 (aM h2) hc
  rw[kN,ax (bQ h1),aC (bq h2),S4 hk,ax (bQ h1),S6 hi,bk h2,bk h2,aL h2 (by omega),bA (by simp only[S3]; omega),ih _ (by first | omega | (simp only[S5,S3,V3,T3] at hc ⊢; omega)),ih _ (by first | omega | (simp only[S5,S3,V3,T3] at hc ⊢; omega))]
  rw[show(S2 (⟨#[]⟩:S0) == S2 y.2.1)=decide (eS=y.2.1) from j0]
  have hdf:iO [] (y :: m)=cC (y.1,eS,y.2.1,()) (iO [] m):=by conv=>lhs; unfold iO
  rw[hdf]
  unfold cC
  by_cases e:eS=y.2.1 <;> simp[e]
 | x :: l,y :: m,pl,pm,acc,h1,h2,hc=>by
  rw[T3,T3] at hc
  have hi : ¬((pl.length:Int) == (a.length:Int))=true:=by
   have:=bq h1
   simp only[X3]
   omega
  have hk : ¬((pm.length:Int) == (b.length:Int))=true:=by
   have:=bq h2
   simp only[X3]
   omega
  have i1:=fun acc hc=>g9 l (y :: m) (pl++[x]) pm acc (aM h1) h2 hc
  have i2:=fun acc hc=>g9 (x :: l) m pl (pm++[y]) acc h1 (aM h2) hc
  have i3:=fun acc hc=>g9 l m (pl++[x]) (pm++[y]) acc (aM h1) (aM h2) hc
  rw[kN,aC (bq h1),S4 hk,aC (bq h1)]
  simp only[bk h1,bk h2,sy,S1]
  rw[S4 hi]
  have e0:(S2 (⟨#[]⟩:S0) == S2 y.2.1)=decide (eS=y.2.1):=j0
  have e1:(S2 x.2.1 == S2 (⟨#[]⟩:S0))=decide (x.2.1=eS):=j0
  have e2:(S2 x.2.1 == S2 y.2.1)=decide (x.2.1=y.2.1):=j0
  rw[e0,e1,e2,aL h1 (by omega),aL h2 (by omega)]
  rw[bA (by simp only[S3]; omega),bA (by simp only[S3]; omega),bA (by simp only[S3]; omega)]
  rw[i1 _ (by first | omega | (simp only[S5,S3,V3,T3] at hc ⊢; omega)),i1 _ (by first | omega | (simp only[S5,S3,V3,T3] at hc ⊢; omega)),i2 _ (by first | omega | (simp only[S5,S3,V3,T3] at hc ⊢; omega)),i2 _ (by first | omega | (simp only[S5,S3,V3,T3] at hc ⊢; omega)),i3 _ (by first | omega | (simp only[S5,S3,V3,T3] at hc ⊢; omega)),i3 _ (by first | omega | (simp only[S5,S3,V3,T3] at hc ⊢; omega))]
  have hdf:iO (x :: l) (y :: m)=if bv x.1 y.1=true then cC (x.1,x.2.1,eS,()) (iO l (y :: m)) else if bv y.1 x.1=true then cC (y.1,eS,y.2.1,()) (iO (x :: l) m) else cC (x.1,x.2.1,y.2.1,()) (iO l m):=by conv=>lhs; unfold iO
  rw[hdf]
  cases k1:bv x.1 y.1 with
  | true =>
   simp only[if_true]
   unfold cC
   by_cases e:x.2.1=eS <;> simp[e]
  | false =>
   simp only[S9,U6]
   cases k2:bv y.1 x.1 with
   | true =>
    simp only[if_true]
    unfold cC
    by_cases e:eS=y.2.1 <;> simp[e]
   | false =>
    simp only[S9,U6]
    unfold cC
    by_cases e:x.2.1=y.2.1 <;> simp[e]
termination_by l m=>l.length+m.length
theorem Lq:CB a b=some ((Re a b,()),()):=by
 rw[KI,eE hsa (by omega),S1]
 dsimp only
 unfold Re
 cases h1:bi a with
 | false=>simp
 | true =>
  rw[S4 (by decide),eE hsb (by omega),S1]
  dsimp only
  cases h2:bi b with
  | false=>simp
  | true =>
   rw[S4 (by decide)]
   refine(g9 ha hb a b [] [] [] rfl rfl (by simp only[V3]; omega)).trans ?_
   rw[Q7 (sD h1) (sD h2)]
   simp
end
section
variable {o x y:List ac} (ho:o.length≤2000000) (hx:x.length≤2000000) (hy:y.length≤2000000)
include ho hx hy
end
def vA (p:List ac×List aA):List ac×List aA×Bool:=if p.2=[] then(if p.1.length≤120 then(p.1,[],true) else([],[],false)) else([],p.2,false)
theorem JF {o x y:List ac} (h1:bi o=true) (h2:bi x=true) (h3:bi y=true):Hf o x y=vA (ki o x y,tX o x y):=S6 ⟨h1,h2,h3⟩
theorem Dh {o x y:List ac} (h : ¬(bi o=true∧bi x=true∧bi y=true)):Hf o x y=([],[],false):=S4 h
theorem Rf (p:List ac×List aA):(if decide ((p.2.length:Int) > 0)=true then(some ((([]:(List ac)),p.2,false,()),(()))) else(if decide ((p.1.length:Int) > 120)=true then(some ((([]:(List ac)),([]:(List aA)),false,()),(()))) else(some ((p.1,([]:(List aA)),true,()),(())))))=some (((vA p).1,(vA p).2.1,(vA p).2.2,()),()):=by
 obtain⟨a,b⟩:=p
 unfold vA
 cases b with
 | cons r b =>
  rw[aC (by simp only[T3]; omega)]
  simp
 | nil =>
  rw[ax (by simp)]
  by_cases hn:a.length≤120
  ·rw[ax (by simp only; omega)]
   simp[hn]
  ·rw[aC (by simp only; omega)]
   simp[hn]
section
variable {o x y:List ac} (ho:o.length≤2000000) (hx:x.length≤2000000) (hy:y.length≤2000000) (hso : ∀ c∈o,c.2.1.size≤9223372036854775807) (hsx : ∀ c∈x,c.2.1.size≤9223372036854775807) (hsy : ∀ c∈y,c.2.1.size≤9223372036854775807)
include ho hx hy hso hsx hsy
omit ho hy hso hsx hsy in
theorem xT {l:List aV} (hl:l.length≤2000000) : ∀(ys pre:List aV) (p:List ac×List aA),l=pre++ys→p.1.length≤1000000+pre.length→p.1.length+ys.length≤1000000→p.2.length+ys.length≤1000000→jX x (pre.length:Int) p.1 p.2 l=some (((vA (ys.foldl (nO x) p)).1,(vA (ys.foldl (nO x) p)).2.1,(vA (ys.foldl (nO x) p)).2.2,()),())
 | [],pre,p,h,h1,h2,h3=>by
  rw[vX,ax (bQ h)]
  exact Rf p
 | c :: ys,pre,p,h,h1,h2,h3=>by
  rw[T3] at h2 h3
  have hg:V5 l (V1 (pre.length:Int)) fA.dflt=c:=by rw[h]; exact jO
  have ih:=fun p h1 h2 h3=>xT hl ys (pre++[c]) p (aM h) h1 h2 h3
  rw[vX,aC (bq h)]
  simp only[fN h,hg]
  rw[OS (by omega),S1]
  dsimp only
  simp only[Sp]
  rw[aL h (by omega),List.foldl_cons]
  have hm:nO x p c=if aH c.1 x=c.2.1 then(iz p.1 c.1 c.2.2.1,p.2) else if aH c.1 x=c.2.2.1 then p else(p.1,p.2++[c.1]):=rfl
  by_cases e1:aH c.1 x=c.2.1
  ·have hsl:=P0 p.1 c.1 c.2.2.1
   rw[U2 e1,S6 rfl,Ep (by omega),S1,hm,S6 e1]
   exact ih (iz p.1 c.1 c.2.2.1,p.2) (by simp only[S5,S3]; omega) (by simp only; omega) (by simp only; omega)
  ·rw[U9 e1,S4 (by decide),hm,S4 e1]
   by_cases e2:aH c.1 x=c.2.2.1
   ·rw[U2 e2,S4 (by decide),S6 e2]
    exact ih p (by simp only[S5,S3]; omega) (by omega) (by omega)
   ·rw[U9 e2,S6 (by rfl),S4 e2,bA (by simp only[S3]; omega)]
    exact ih (p.1,p.2++[c.1]) (by simp only[S5,S3]; omega) (by simp only; omega) (by simp only[S5,S3]; omega)
theorem Lr:CC o x y=some (((Hf o x y).1,(Hf o x y).2.1,(Hf o x y).2.2,()),()):=by
 rw[KJ,eE hso (by omega),S1]
 dsimp only
 cases h1:bi o with
 | false =>
  rw[Dh (by rw[h1]; exact fun h=>by cases h.1)]
  rfl
 | true =>
  rw[S4 (by decide),eE hsx (by omega),S1]
  dsimp only
  cases h2:bi x with
  | false =>
   rw[Dh (by rw[h2]; exact fun h=>by cases h.2.1)]
   rfl
  | true =>
   rw[S4 (by decide),eE hsy (by omega),S1]
   dsimp only
   cases h3:bi y with
   | false =>
    rw[Dh (by rw[h3]; exact fun h=>by cases h.2.2)]
    rfl
   | true =>
    have l1:=dc h2
    have l2:=OY h1 h3
    have hd:Re o y=rM o y:=S6 ⟨h1,h3⟩
    rw[S4 (by decide),bA (by simp only[V3]; omega),Lq ho hy hso hsy,S1,hd,JF h1 h2 h3,←OX (o:=o) (x:=x) (y:=y) (sD h2) (Lo h2)]
    exact xT (l:=rM o y) hx (by omega) (rM o y) [] (x,[]) rfl (by simp only; omega) (by simp only; omega) (by simp only[V3]; omega)
end
theorem bS.szd {d:aO} (h:bS d):q7 d where
 vl:=by have:=h.vl; omega
 bl:=by have:=h.bl; omega
 ul:=fun v hv=>by have:=(h.up v hv).1; omega
 sl:=fun v hv=>by have:=dc (h.sh v hv); omega
 ss:=fun v hv c hc=>W7 (mu (h.sh v hv) c hc) (by decide)
 bs:=fun b hb=>by
  have:=(h.br b hb).1
  unfold mE at this
  rw[S8,S8,T0,T0] at this
  omega
theorem Ew {vs:List ag} (hl:vs.length≤1000000000) (hu : ∀ v∈vs,v.2.1.length≤1000000000∧v.2.2.1.length≤1000000000) {a c e:Int} {bs b2 b3:List ah} {f:List ag} : ∀(ys pre acc:List ag),vs=pre++ys→acc.length≤pre.length→nH (pre.length:Int) a vs bs c e f b2 acc b3=some (((e,acc++ys,b3,()),()),())
 | [],pre,acc,h,hb=>by rw[tG,ax (bQ h),W9]
 | y :: ys,pre,acc,h,hb=>by
  obtain⟨k1,k2⟩:=hu y (by rw[h]; simp)
  have hlen:vs.length=pre.length+(ys.length+1):=by rw[h]; simp
  rw[tG,aC (bq h),bk h,bA (by simp only[V3]; omega),bA (by simp only[V3]; omega),bA (by simp only[S3]; omega),aL h (by omega),ag_,ag_]
  have ih:=Ew hl hu (a:=a) (c:=c) (e:=e) (bs:=bs) (b2:=b2) (b3:=b3) (f:=f) ys (pre++[y]) (acc++[y]) (aM h) (by simp only[S5,S3]; omega)
  rw[X2] at ih
  exact ih
theorem q9 {d:aO} (hz:q7 d):kZ d=some ((d,()),()):=by
 have h1:=hz.vl
 have h2:=hz.bl
 rw[Il,bA (by simp only[V3]; omega),ag_]
 exact Ew hz.vl (fun v hv=>⟨hz.ul v hv,hz.sl v hv⟩) d.2.1 [] [] rfl (T7 _)
theorem Ex {n:S0} {a:Int} {vs:List ag} {bs:List ah} (hl:bs.length≤1000000000) : ∀(ys pre:List ah),bs=pre++ys→nI n (pre.length:Int) a vs bs=some ((bb ys n,()),())
 | [],pre,h=>by
  rw[tH,ax (bQ h)]
  rfl
 | y :: ys,pre,h=>by
  rw[tH,aC (bq h),bk h,j0,aL h (by omega),Ex hl ys _ (aM h)]
  by_cases e:y.1=n
  ·rw[S6 (U2 e),bk h]
   simp[bb,e]
  ·rw[S4 (by simpa using e)]
   simp[bb,e]
theorem nh {d:aO} (hl:d.2.2.1.length≤1000000000) (n:S0):ik d n=some ((bb d.2.2.1 n,()),()):=by
 rw[Im]
 exact Ex hl d.2.2.1 [] rfl
theorem xU {n:S0} {x a c:Int} {vs vs2:List ag} {b2:List ah} : ∀(ys pre:List ah),pre.length+ys.length≤1000000000→gh n x (pre.length:Int) vs (pre++ys) a c vs2 b2=some (((a,vs,pre++et ys n x,()),()),())
 | [],pre,hb=>by
  rw[oa,ax (bQ rfl)]
  rfl
 | y :: ys,pre,hb=>by
  rw[T3] at hb
  have hw : ∀ z:ah,dz_ ea_ ((pre.length:Int)+1)=((pre++[z]).length:Int):=fun z=>by
   rw[wr (by omega) (by omega),S5]
   rfl
  rw[oa,aC (bq rfl)]
  simp only[P9,jO,j0,Dg]
  by_cases e:y.1=n
  ·rw[S6 (U2 e),hw (y.1,x,())]
   have ih:=xU (n:=n) (x:=x) (a:=a) (c:=c) (vs:=vs) (vs2:=vs2) (b2:=b2) ys (pre++[(y.1,x,())]) (by simp only[S5,S3]; omega)
   rw[X2,X2] at ih
   refine Eq.trans ih ?_
   simp[et,e]
  ·rw[S4 (by simpa using e),hw y]
   have ih:=xU (n:=n) (x:=x) (a:=a) (c:=c) (vs:=vs) (vs2:=vs2) (b2:=b2) ys (pre++[y]) (by simp only[S5,S3]; omega)
   rw[X2,X2] at ih
   refine Eq.trans ih ?_
   simp[et,e]
theorem Hu {a x:Int} {n:S0} {vs:List ag} {bs:List ah} (hb:bs.length≤1000000000):l8 a n x vs bs=some (((a,vs,et bs n x,()),()),()):=by
 rw[Bv]
 exact xU bs [] (by simpa using hb)
theorem Hv {d:aO} (hz:q7 d) (hn:0≤d.1∧d.1≤1000000000) (n:S0) (us:List Int) {s:List ac} (hs:s.length≤1000000000):uN d n us s=some ((if nf d=true then(d,0,false,()) else(cI d n us s,d.1,true,())),()):=by
 have h1:=hz.vl
 rw[Io,q9 hz,S1]
 unfold nf
 by_cases e1:d.2.1.length=40
 ·rw[S6 (by simp[e1]),S6 (by simp[e1])]
 ·rw[S4 (by simp; omega)]
  by_cases e2:d.1=1000000000
  ·rw[S6 (by simp[e2]),S6 (by simp[e2])]
  ·rw[S4 (by simpa using e2),S4 (by simp[e1,e2]),bA (by simp only[V3]; omega),ag_,bA (by simp only[S3]; omega),wr (by omega) (by omega),Hu hz.bl,S1]
   rfl
section
variable {d:aO} (h:bS d)
include h
theorem rQ (x:Int):hZ d x=some ((dG d.2.1 x,()),()):=by
 rw[Gr,lj h.szd.vl,S1]
 dsimp only
 rw[f9]
 cases hx:cB d.2.1 x with
 | false =>
  rw[S6 (by decide)]
  have:d.2.1.find? (fun v=>v.1 == x)=none:=by
   rw[List.find?_eq_none]
   intro v hv e
   unfold cB at hx
   rw[List.any_eq_false] at hx
   exact hx v hv e
  unfold dG
  rw[this]
 | true =>
  obtain⟨v,hv,e,hF⟩:=Ho hx
  have hl:=dc (h.sh v hv)
  rw[S4 (by decide),hF,bA (by simp only[V3]; omega),ag_,←e,yA h.vr hv]
theorem Ls (n:S0):tl d n=some ((bb d.2.2.1 n,()),()):=by
 rw[KK,om h.szd,S1,co.2 h]
 dsimp only
 rw[S4 (by decide),nh h.szd.bl,S1]
theorem wh (n:S0) {s:List ac} (hl:s.length≤1000000) (hs : ∀ c∈s,c.2.1.size≤9223372036854775807):il d n s=some (((q6 d n s).1,(q6 d n s).2.1,(q6 d n s).2.2,()),()):=by
 have hnx:=h.nx
 rw[vR,om h.szd,S1,co.2 h]
 dsimp only
 rw[S4 (by decide),nh h.szd.bl,S1]
 dsimp only
 unfold q6
 rw[S6 (co.2 h)]
 have h0:=h.hd0 n
 cases h1:dB d.2.2.1 n with
 | false =>
  rw[S6 (by rw[X3]; exact h0.2 h1),q9 h.szd,S1]
  rfl
 | true =>
  rw[S4 (by rw[X3,h0,h1]; decide),eE hs (by omega),S1,S6 rfl]
  dsimp only
  cases h2:bi s with
  | false =>
   rw[S6 (by decide),q9 h.szd,S1]
   rfl
  | true =>
   rw[S4 (by decide),S6 rfl,Hv h.szd (by omega) n _ (by omega),S1]
   dsimp only
   by_cases h3:nf d=true
   ·rw[S6 h3,S6 h3]
    rfl
   ·rw[S4 h3,S4 h3]
    rfl
end
theorem Rg (a b:S0):(!(Op.bytesLess b.toList a.toList || (b.toList == a.toList)))=fV a b:=by
 rw[j0]
 show(!(fV b a || decide (b=a)))=fV a b
 by_cases e:b=a
 ·rw[U2 e,e,tY]
  rfl
 ·rw[U9 e,Bool.or_false]
  cases hb:fV b a with
  | false =>
   rw[JC hb fun k=>e k.symm]
   rfl
  | true =>
   cases ha:fV a b with
   | false=>rfl
   | true =>
    have:=xQ ha hb
    rw[tY] at this
    cases this
section
variable {n:S0} {x a c e:Int} {vs vs2 vs3:List ag} {bs b2 b3:List ah} (hl:bs.length≤1000000000)
include hl
theorem JG : ∀(ys pre acc:List ah),bs=pre++ys→acc.length≤pre.length+1→dW n x true (pre.length:Int) a vs bs c e acc vs2 b2 vs3 b3=some (((e,vs3,acc++ys,()),0,()),())
 | [],pre,acc,h,hb=>by
  rw[iu,ax (bQ h),W9]
  rfl
 | y :: ys,pre,acc,h,hb=>by
  have hlen:bs.length=pre.length+(ys.length+1):=by rw[h]; simp
  rw[iu,aC (bq h),S4 (by decide),bk h,bA (by simp only[S3]; omega),aL h (by omega),JG ys _ _ (aM h) (by simp only[S5,S3]; omega),X2]
  rfl
theorem Hw : ∀(ys pre acc:List ah),bs=pre++ys→acc.length≤pre.length→dW n x false (pre.length:Int) a vs bs c e acc vs2 b2 vs3 b3=some (((e,vs3,acc++ng n x ys,()),0,()),())
 | [],pre,acc,h,hb=>by
  have hlen:bs.length=pre.length:=by rw[h]; simp
  rw[iu,ax (bQ h),S6 (by decide),bA (by simp only[S3]; omega)]
  rfl
 | y :: ys,pre,acc,h,hb=>by
  have hlen:bs.length=pre.length+(ys.length+1):=by rw[h]; simp
  rw[iu,aC (bq h),S6 (by decide),bk h,Rg]
  unfold ng
  by_cases hk:fV n y.1=true
  ·rw[S6 hk,S6 hk,bA (by simp only[S3]; omega),bk h,bA (by simp only[S5,S3]; omega),aL h (by omega),JG hl ys _ _ (aM h) (by simp only[S5,S3]; omega)]
   simp
  ·rw[S4 hk,S4 hk,bk h,bA (by simp only[S3]; omega),aL h (by omega),Hw ys _ _ (aM h) (by simp only[S5,S3]; omega)]
   simp
end
section
variable {d:aO} (h:bS d)
include h
theorem Hx {n:S0} (hn:n.size≤9223372036854775807) (x:Int):n3 d n x=some (((Nk d n x).1,(Nk d n x).2,()),()):=by
 have hvl:=h.vl
 have hbl:=h.bl
 rw[Gm,om h.szd,S1,co.2 h]
 dsimp only
 rw[S4 (by decide),q9 h.szd,S1,Az hn,S1]
 dsimp only
 unfold Nk
 rw[S6 (co.2 h)]
 cases h1:mE n with
 | false =>
  rw[S6 (by decide),S6 (.inl rfl)]
 | true =>
  rw[S4 (by decide),nh h.szd.bl,S1]
  dsimp only
  have h0:=h.hd0 n
  cases h2:dB d.2.2.1 n with
  | true =>
   rw[S6 (by rw[bne_iff_ne,Ne,h0,h2]; decide),S6 (.inr rfl)]
  | false =>
   rw[S4 (by rw[bne_iff_ne,Ne,Classical.not_not]; exact h0.2 h2),lj h.szd.vl,S1,S4 (show ¬(true=false∨false=true) by simp)]
   dsimp only
   rw[f9]
   cases h3:cB d.2.1 x with
   | false =>
    rw[S6 (by decide),S6 rfl]
   | true =>
    rw[S4 (by decide),S4 (show ¬true=false by decide)]
    by_cases h4:d.2.2.1.length=8
    ·rw[S6 (by simp[h4]),S6 h4]
    ·rw[S4 (by simp; omega),S4 h4,show dW n x false 0 d.1 d.2.1 d.2.2.1 0 d.1 [] [] [] d.2.1 d.2.2.1=_ from Hw (by omega) d.2.2.1 [] [] rfl (T7 _)]
     rfl
theorem Hy (m n:S0):rs d m n=some (((JD d m n).1,(JD d m n).2.1,(JD d m n).2.2,()),()):=by
 have hvl:=h.vl
 have hbl:=h.bl
 have hnx:=h.nx
 rw[Gs,om h.szd,S1,co.2 h]
 dsimp only
 rw[S4 (by decide),q9 h.szd,S1,nh h.szd.bl,S1,nh h.szd.bl,S1]
 dsimp only
 unfold JD
 rw[S6 (co.2 h)]
 have h0:=h.hd0 m
 have h0':=h.hd0 n
 cases h1:dB d.2.2.1 m with
 | false =>
  rw[S6 (by rw[X3]; exact h0.2 h1),S4 (fun k=>by cases k.1)]
 | true =>
  rw[S4 (by rw[X3,h0,h1]; decide)]
  cases h2:dB d.2.2.1 n with
  | false =>
   rw[S6 (by rw[X3]; exact h0'.2 h2),S4 (fun k=>by cases k.2)]
  | true =>
   rw[S4 (by rw[X3,h0',h2]; decide),S6 (show true=true∧true=true from⟨rfl,rfl⟩)]
   have ha:=(h.head h1).1
   have hb:=(h.head h2).1
   have la:=q8 h (bb d.2.2.1 m)
   have lb:=q8 h (bb d.2.2.1 n)
   rw[rP h ha,S1]
   dsimp only
   rw[t6 (by omega),S1]
   dsimp only
   by_cases h3:bb d.2.2.1 n∈cF d.2.1 (bb d.2.2.1 m)
   ·rw[S6 (U2 h3),S6 h3]
   ·rw[S4 (by simpa using h3),S4 h3,rP h hb,S1]
    dsimp only
    rw[t6 (by omega),S1]
    dsimp only
    by_cases h4:bb d.2.2.1 m∈cF d.2.1 (bb d.2.2.1 n)
    ·rw[S6 (U2 h4),S6 h4,Hu h.szd.bl,S1]
    ·rw[S4 (by simpa using h4),S4 h4,P8 h ha hb,S1,rQ h,S1,rQ h,S1,rQ h,S1]
     dsimp only
     have ho:=h.sheet (oI (cF d.2.1 (bb d.2.2.1 n)) (cF d.2.1 (bb d.2.2.1 m)) 0)
     have hx:=h.sheet (bb d.2.2.1 m)
     have hy:=h.sheet (bb d.2.2.1 n)
     generalize dG d.2.1 (oI (cF d.2.1 (bb d.2.2.1 n)) (cF d.2.1 (bb d.2.2.1 m)) 0)=o at *
     generalize dG d.2.1 (bb d.2.2.1 m)=u at *
     generalize dG d.2.1 (bb d.2.2.1 n)=v at *
     have k1:=dc ho
     have k2:=dc hx
     have k3:=dc hy
     have s1 : ∀ {t:List ac},bi t=true → ∀ c∈t,c.2.1.size≤9223372036854775807:=fun ht c hc=>W7 (mu ht c hc) (by decide)
     rw[Lr (by omega) (by omega) (by omega) (s1 ho) (s1 hx) (s1 hy),S1,JF ho hx hy]
     unfold vA
     dsimp only
     by_cases h5:tX o u v=[]
     ·rw[S6 h5,S4 (show ¬tX o u v≠[] from fun k=>k h5)]
      by_cases h6:(ki o u v).length≤120
      ·rw[S6 h6,S4 (show ¬120 < (ki o u v).length by omega)]
       dsimp only
       rw[ax (by simp),S4 (by decide),Hv h.szd (by omega) m _ (by omega),S1]
       dsimp only
       have emin:(if bb d.2.2.1 n < bb d.2.2.1 m then bb d.2.2.1 n else bb d.2.2.1 m)=min (bb d.2.2.1 m) (bb d.2.2.1 n):=by
        rw[Int.min_def]
        split <;> split <;> omega
       have emax:(if bb d.2.2.1 m < bb d.2.2.1 n then bb d.2.2.1 n else bb d.2.2.1 m)=max (bb d.2.2.1 m) (bb d.2.2.1 n):=by
        rw[Int.max_def]
        split <;> split <;> omega
       rw[emin,emax]
       by_cases h7:nf d=true
       ·rw[S6 h7,S6 h7]
        rfl
       ·rw[S4 h7,S4 h7]
        rfl
      ·rw[S4 h6,S6 (show 120 < (ki o u v).length by omega)]
       dsimp only
       rw[ax (by simp),S6 (by decide)]
     ·rw[S4 h5,S6 (show tX o u v≠[] from h5)]
      dsimp only
      rw[aC (by have:=List.length_pos_iff.2 h5; omega)]
end
def Ok {α:Type} (P:α→Prop) (o:Option α):Prop := ∃ a,o=some a∧P a
theorem Ok.one {α:Type} {P:α→Prop} {a:α} (h:P a):Ok P (some a):=⟨a,rfl,h⟩
theorem Ok.bnd {α β:Type} {P:α→Prop} {Q:β→Prop} {o:Option α} {f:α→Option β} (h:Ok P o) (k : ∀ a,P a→Ok Q (f a)):Ok Q (o.bind f):=by
 obtain⟨a,e,p⟩:=h
 rw[e]
 exact k a p
theorem Ok.ite {α:Type} {c:Prop} [Decidable c] {Q:α→Prop} {a b:Option α} (h:c→Ok Q a) (k : ¬c→Ok Q b):Ok Q (if c then a else b):=by
 by_cases e:c
 ·rw[S6 e]; exact h e
 ·rw[S4 e]; exact k e
theorem Ok.inb {α β:Type} {Q:β→Prop} {xs:List α} {i:Int} {k:Option β} (h:0≤i∧i < (xs.length:Int)) (hk:Ok Q k):Ok Q (inb xs i k):=by
 rw[jz h.1 h.2]; exact hk
theorem Ok.cats {β:Type} {Q:β→Prop} {a b:S0} {f:S0→Option β} (h:a.size+b.size≤9223372036854775807) (hk:Ok Q (f (a++b))):Ok Q (cats a b f):=by
 rw[dg h]; exact hk
theorem Ok.nz {β:Type} {Q:β→Prop} {b:Int} {k:Option β} (h:b≠0) (hk:Ok Q k):Ok Q (nz b k):=by
 rw[RH h]; exact hk
theorem Ok.app {α β:Type} {Q:β→Prop} {a b:List α} {n:Nat} {f:List α→Option β} (h:(a.length+b.length)*n≤140737488355328) (hk:Ok Q (f (a++b))):Ok Q (app a b n f):=by
 rw[bA h]; exact hk
theorem Ok.mono {α:Type} {P Q:α→Prop} {o:Option α} (h:Ok P o) (k : ∀ a,P a→Q a):Ok Q o:=by
 obtain⟨a,e,p⟩:=h
 exact⟨a,e,k a p⟩
theorem RU {α β:Type} {xs:List α} {i:Int} {d:α} {f:α→Option β} (h0:0≤i) (h1:i < (xs.length:Int)):ix xs i d f=f (xs.getD i.toNat d):=by
 have hl:i.toNat < xs.length:=by omega
 rw[df h0 (T9 hl),V9,T9 hl]
 rfl
theorem Np {l:List S0} {n:Nat} (h : ∀ x∈l,x.size≤n) (i:Nat) (d:S0) (hd:d.size≤n):(l.getD i d).size≤n:=by
 rw[V9]
 by_cases e:i < l.length
 ·rw[T9 e]; exact h _ (bf_ e)
 ·rw[Z5 (by omega)]; exact hd
structure zp (c:List Int):Prop where
 len:c.length≤1048576
 all : ∀ b∈c,0≤b∧b≤255
def Rd (c:List Int) (s:aE):Prop:=s.1=c∧0≤s.2.1∧s.2.1≤(c.length:Int)
section
variable {c:List Int} (hc:zp c)
include hc
theorem pB {s:aE} (h:Rd c s):Ok (fun z=>(0≤z.1.1∧z.1.1≤255)∧Rd c z.2.1) (gv s):=by
 obtain⟨x,i,u⟩:=s
 obtain⟨h1,h2,h3⟩:=h
 simp only at h1 h2 h3
 subst h1
 have hl:=hc.len
 rw[tw]
 show Ok _ (if decide (i≥(x.length:Int))=true then some ((0,()),((x,i,u),())) else ix x (dz_ ea_ ((dz_ ea_ (i+1)) - 1)) 0 fun y1=>(some (((dz_ ea_ y1),()),((x,(dz_ ea_ (i+1)),()),()))))
 refine Ok.ite (fun _=>Ok.one ⟨⟨af_ _,by show(0:Int)≤255; decide⟩,rfl,h2,h3⟩) fun e => ?_
 have e':i < (x.length:Int):=by simp only[T0] at e; omega
 rw[wr (n:=i+1) (by omega) (by omega),wr (n:=i+1 - 1) (by omega) (by omega),show i+1 - 1=i by omega,RU h2 e']
 have hb:0≤x.getD i.toNat 0∧x.getD i.toNat 0≤255:=by
  rw[V9,T9 (by omega)]
  exact hc.all _ (bf_ _)
 rw[wr (by omega) (by omega)]
 exact Ok.one ⟨hb,rfl,by show(0:Int)≤i+1; omega,by show i+1≤(x.length:Int); omega⟩
theorem ni {n:Int} {s:aE} (h:Rd c s) (hn:1≤n):Ok (fun z=>(0≤z.1.1∧z.1.1 < n)∧Rd c z.2.1) (aq n s):=by
 rw[Br]
 refine Ok.ite (fun _=>Ok.one ⟨⟨af_ _,by show(0:Int) < n; omega⟩,h⟩) fun _=>Ok.ite (fun _ => ?_) fun _ => ?_
 ·refine Ok.bnd (pB hc h) fun z hz=>Ok.nz (by omega) (Ok.one ⟨⟨Int.tmod_nonneg _ hz.1.1,dw_ _ (by omega)⟩,hz.2⟩)
 ·refine Ok.bnd (pB hc h) fun z hz=>Ok.bnd (pB hc hz.2) fun y hy => ?_
  have h1:=hz.1
  have h2:=hy.1
  rw[wr (n:=z.1.1*256) (by omega) (by omega),wr (by omega) (by omega)]
  exact Ok.nz (by omega) (Ok.one ⟨⟨Int.tmod_nonneg _ (by omega),dw_ _ (by omega)⟩,hy.2⟩)
theorem Hz {s:aE} (h:Rd c s):Ok (fun z=>bT z.1.1=true∧Rd c z.2.1) (cZ s):=by
 rw[Gt]
 refine Ok.bnd (ni hc h (by decide)) fun z hz=>Ok.bnd (ni hc hz.2 (by decide)) fun y hy => ?_
 have h1:=hz.1
 have h2:=hy.1
 rw[wr (by omega) (by omega),wr (by omega) (by omega)]
 refine Ok.one ⟨?_,hy.2⟩
 rw[oi]
 show(1≤1+z.1.1∧1+z.1.1≤52)∧1≤1+y.1.1∧1+y.1.1≤99
 omega
theorem Di {n:Int} {s:aE} (h:Rd c s) (hn:1≤n):Ok (fun z=>Rd c z.2.1) (cb n s):=by
 rw[ET]
 exact Ok.bnd (ni hc h hn) fun z hz=>Ok.one hz.2
theorem HA : ∀(n:Nat) (x0:Int) (s:aE),n≤8→Rd c s→Ok (fun z=>Rd c z.2.1) (kK x0 (8 - (n:Int)) s)
 | 0,x0,s,_,h=>by
  rw[qE,ax (by omega)]
  exact Ok.one h
 | n+1,x0,s,hn,h=>by
  rw[qE,aC (by omega)]
  refine Ok.bnd (pB hc h) fun z hz => ?_
  rw[wr (by omega) (by omega),show 8 - ((n+1:Nat):Int)+1=8 - (n:Int) by omega]
  exact HA n _ _ (by omega) hz.2
theorem Qa {s:aE} (h:Rd c s):Ok (fun z=>Rd c z.2.1) (uO s):=by
 rw[EU]
 exact HA hc 8 0 s (T7 _) h
theorem Qb {a b:Int} {s:aE} (h:Rd c s) (hab:0≤a∧a≤b∧b≤1000000):Ok (fun z=>Rd c z.2.1) (uP a b s):=by
 rw[EV]
 refine Ok.bnd (ni hc h (by decide)) fun z hz=>Ok.ite (fun _=>Ok.one hz.2) fun _=>Ok.ite (fun _=>Ok.one hz.2) fun _=>Ok.ite (fun _=>Ok.one hz.2) fun _=>Ok.bnd (Qa hc hz.2) fun y hy => ?_
 refine Ok.nz ?_ (Ok.one hy)
 rw[wr (n:=b - a) (by omega) (by omega),wr (n:=b - a+1) (by omega) (by omega)]
 have:IntKind.u64.wrap (b - a+1)=b - a+1:=by
  show(b - a+1) % 18446744073709551616=_
  omega
 rw[this]
 omega
theorem Nq {a b:Int} {s:aE} (h:Rd c s) (hab:0≤a∧a≤b∧b≤1000000):Ok (fun z=>Rd c z.2.1) (jt a b s):=by
 rw[Gu]
 refine Ok.bnd (Di hc h (by decide)) fun z hz=>Ok.ite (fun _ => ?_) fun _ => ?_
 ·exact Ok.bnd (ni hc hz (by decide)) fun y hy=>Ok.inb hy.1 (Ok.one hy.2)
 ·exact Ok.bnd (Qb hc hz hab) fun y hy=>Ok.one hy
theorem Qc {s:aE} (h:Rd c s):Ok (fun z=>Rd c z.2.1) (l9 s):=by
 rw[EW]
 refine Ok.bnd (Hz hc h) fun z hz=>Ok.bnd (Hz hc hz.2) fun y hy=>Ok.bnd (Di hc hy.2 (by decide)) fun w hw=>Ok.ite (fun _ => ?_) fun _=>Ok.one hw
 exact Ok.bnd (Nq hc hw (by decide)) fun v hv=>Ok.one hv
end
theorem zq (p:b9):Ok (fun z=>z.1.1.size≤10) (ck p):=by
 refine⟨_,iM p,?_⟩
 show(if bT p.1=true then ba (jd p) else ba []).size≤10
 split
 ·rename_i h
  rw[aN]
  have:=yy h
  omega
 ·rw[aN]; decide
theorem Nr {n:Int} (h0:0≤n) (h1:n≤100):Ok (fun z=>z.1.1.size≤20) (cQ n):=⟨_,xw (by omega) (by omega),dR (by omega) (by omega)⟩
theorem Lt {k:Int} (h0:0≤k) (h1:k≤11):Ok (fun z=>z.1.1.size≤2) (iV k):=by
 refine⟨_,pi h0 h1,?_⟩
 show(ba (dz k)).size≤2
 rw[aN]
 exact yr k
theorem Po {a:UInt8}:(⟨#[a]⟩:S0).size=1:=rfl
theorem Se {a b d:UInt8}:(⟨#[a,b,d]⟩:S0).size=3:=rfl
theorem Ok.inbL {β:Type} {Q:β→Prop} {l:List S0} {i n:Int} {k:Option β} (d:S0) (h0:0≤i) (h1:i < n) (hl:n=(l.length:Int)) (hs : ∀ x∈l,x.size≤20) (hd:d.size≤20) (hk:(l.getD i.toNat d).size≤20→Ok Q k):Ok Q (Abs.inb l i k) :=
 Ok.inb ⟨h0,by omega⟩ (hk (Np hs _ _ hd))
theorem JH {β:Type} {Q:β→Prop} {p:b9} {f:(S0×Unit)×Unit→Option β} (k : ∀ z,z.1.1.size≤10→Ok Q (f z)):Ok Q ((ck p).bind f):=Ok.bnd (zq p) k
theorem Lu {β:Type} {Q:β→Prop} {n:Int} {f:(S0×Unit)×Unit→Option β} (h0:0≤n) (h1:n≤100) (k : ∀ z,z.1.1.size≤20→Ok Q (f z)):Ok Q ((cQ n).bind f):=Ok.bnd (Nr h0 h1) k
theorem Rh {β:Type} {Q:β→Prop} {n:Int} {f:(S0×Unit)×Unit→Option β} (h0:0≤n) (h1:n≤11) (k : ∀ z,z.1.1.size≤2→Ok Q (f z)):Ok Q ((iV n).bind f):=Ok.bnd (Lt h0 h1) k
theorem Qd {β:Type} {Q:β→Prop} {n:Int} {f:(S0×Unit)×Unit→Option β} (h0:0≤n) (h1:n < 11) (k : ∀ z,z.1.1.size≤2→Ok Q (f z)):Ok Q ((iV (dz_ ea_ (1+n))).bind f):=by
 rw[wr (by omega) (by omega)]
 exact Rh (by omega) (by omega) k
section
variable {c:List Int} (hc:zp c) {β:Type} {Q:β→Prop} {s:aE}
include hc
theorem eV {n:Int} {f:(Int×Unit)×aE×Unit→Option β} (h:Rd c s) (hn:1≤n) (k : ∀ z,0≤z.1.1→z.1.1 < n→Rd c z.2.1→Ok Q (f z)):Ok Q ((aq n s).bind f):=Ok.bnd (ni hc h hn) fun z hz=>k z hz.1.1 hz.1.2 hz.2
theorem HC {n:Int} {f:(Bool×Unit)×aE×Unit→Option β} (h:Rd c s) (hn:1≤n) (k : ∀ z,Rd c z.2.1→Ok Q (f z)):Ok Q ((cb n s).bind f):=Ok.bnd (Di hc h hn) k
theorem yD {f:(aA×Unit)×aE×Unit→Option β} (h:Rd c s) (k : ∀ z,bT z.1.1=true→Rd c z.2.1→Ok Q (f z)):Ok Q ((cZ s).bind f):=Ok.bnd (Hz hc h) fun z hz=>k z hz.1 hz.2
theorem Ri {f:(rl×Unit)×aE×Unit→Option β} (h:Rd c s) (k : ∀ z,Rd c z.2.1→Ok Q (f z)):Ok Q ((l9 s).bind f):=Ok.bnd (Qc hc h) k
theorem Qe {m q:Nat} {f:(S0×Unit)×aE×Unit→Option β} (ih : ∀ {s:aE},Rd c s→Ok (fun y=>y.1.1.size≤100*q∧Rd c y.2.1) (bh (m:Int) s)) (h:Rd c s) (k : ∀ z,z.1.1.size≤100*q→Rd c z.2.1→Ok Q (f z)):Ok Q ((bh (m:Int) s).bind f):=Ok.bnd (ih h) fun z hz=>k z hz.1 hz.2
end
set_option maxHeartbeats 4000000 in
theorem HD {c:List Int} (hc:zp c) : ∀(n:Nat) {s:aE},n≤3→Rd c s→Ok (fun y=>y.1.1.size≤100*4 ^ n∧Rd c y.2.1) (bh (n:Int) s)
 | n,s,hn,h=>by
  have h1:1≤4 ^ n:=Nat.one_le_pow _ _ (by decide)
  rw[CK]
  refine Ok.ite (fun _ => ?_) fun e => ?_
  ·generalize 4 ^ n=q at h1 ⊢
   repeat' first
    | refine eV hc (by assumption) (by decide) fun _ _ _ _ => ?_
    | refine yD hc (by assumption) fun _ _ _ => ?_
    | refine HC hc (by assumption) (by decide) fun _ _ => ?_
    | refine JH fun _ _ => ?_
    | refine Lu (by omega) (by omega) fun _ _ => ?_
    | refine Ok.inbL ⟨#[]⟩ (by assumption) (by assumption) (by decide) (by decide) (by decide) fun _ => ?_
    | refine Ok.ite (fun _ => ?_) fun _ => ?_
    | refine Ok.one ⟨?_,by assumption⟩
   all_goals (try dsimp only)
   all_goals omega
  ·have hn0:n≠0:=fun k=>e (by subst k; rfl)
   obtain⟨m,rfl⟩ : ∃ m,n=m+1:=⟨n - 1,by omega⟩
   have hw:IntKind.i64.wrap (((m+1:Nat):Int) - 1)=(m:Int):=by rw[wr (by omega) (by omega)]; omega
   have ih:=fun {s:aE} (h:Rd c s)=>HD hc m (s:=s) (by omega) h
   have hp:4 ^ (m+1)=4*4 ^ m:=by rw[Nat.pow_succ,Nat.mul_comm]
   have h2:1≤4 ^ m:=Nat.one_le_pow _ _ (by decide)
   have h64:4 ^ m≤64:=W7 (cn_ (by decide) (by omega:m≤3)) (by decide)
   rw[hp]
   simp only[hw]
   generalize 4 ^ m=q at ih h2 h64 ⊢
   repeat' first
    | refine eV hc (by assumption) (by decide) fun _ _ _ _ => ?_
    | refine yD hc (by assumption) fun _ _ _ => ?_
    | refine HC hc (by assumption) (by decide) fun _ _ => ?_
    | refine Ri hc (by assumption) fun _ _ => ?_
    | refine Qe hc ih (by assumption) fun _ _ _ => ?_
    | refine JH fun _ _ => ?_
    | refine Lu (by omega) (by omega) fun _ _ => ?_
    | refine Qd (by assumption) (by assumption) fun _ _ => ?_
    | refine Ok.inbL ⟨#[]⟩ (by assumption) (by assumption) (by decide) (by decide) (by decide) fun _ => ?_
    | (refine Ok.cats (by simp only[size_append,Po,Se]; omega) ?_; try dsimp only)
    | refine Ok.ite (fun _ => ?_) fun _ => ?_
    | refine Ok.one ⟨?_,by assumption⟩
   all_goals (try dsimp only)
   all_goals (try simp only[size_append,Po,Se])
   all_goals omega
theorem Qf (c:List Int):Oh c=some ((decide (1048576 < (c.length:Int)),()),()):=by rw[PG]
theorem Rj {x:List Int} (h:x.length≤maxLen ∧ ∀ b∈x,wJ (.int .u8) b) (hl : ¬1048576 < (x.length:Int)):zp x:=by
 refine⟨by omega,fun b hb => ?_⟩
 have:(decide (IntKind.u8.min≤b) && decide (b≤IntKind.u8.max))=true:=h.2 b hb
 simp only[S8,T0] at this
 have e1:IntKind.u8.min=0:=rfl
 have e2:IntKind.u8.max=255:=rfl
 omega
section
variable {c:List Int} (hc:zp c)
include hc
theorem Rk {β:Type} {Q:β→Prop} {s:aE} (n:Nat) {m:Int} {f:(S0×Unit)×aE×Unit→Option β} (e:m=(n:Int)) (hn:n≤3) (h:Rd c s) (k : ∀ z,z.1.1.size≤6400→Rd c z.2.1→Ok Q (f z)):Ok Q ((bh m s).bind f):=by
 subst e
 have h4:4 ^ n≤64:=W7 (cn_ (n:=4) (by decide) hn) (by decide)
 exact Ok.bnd (HD hc n hn h) fun z hz=>k z (by have:=hz.1; omega) hz.2
set_option maxHeartbeats 4000000 in
theorem O3 {s:aE} (h:Rd c s):Ok (fun z=>z.1.1.size≤6401∧Rd c z.2.1) (ko s):=by
 rw[CL]
 repeat' first
  | refine eV hc (by assumption) (by decide) fun _ _ _ _ => ?_
  | refine Rk hc 2 rfl (by decide) (by assumption) fun _ _ _ => ?_
  | refine Rk hc 1 rfl (by decide) (by assumption) fun _ _ _ => ?_
  | refine Lu (by omega) (by omega) fun _ _ => ?_
  | refine Ok.inbL ⟨#[]⟩ (by assumption) (by assumption) (by decide) (by decide) (by decide) fun _ => ?_
  | (refine Ok.cats (by simp only[Po]; omega) ?_; try dsimp only)
  | refine Ok.ite (fun _ => ?_) fun _ => ?_
  | refine Ok.one ⟨?_,by assumption⟩
 all_goals (try dsimp only)
 all_goals (try simp only[size_append,Po])
 all_goals first | omega | decide
end
noncomputable def Ns (s:List ac) (r:aA) (x:S0):List ac×Bool :=
 if bi s=true∧bT r=true∧(fW x).2=true∧(iz s r (fW x).1).length≤120 then(iz s r (fW x).1,true) else([],false)
theorem Nt {s:List ac} {r:aA} {x:S0} (hl:s.length≤1000000) (hs : ∀ c∈s,c.2.1.size≤9223372036854775807) (hx:x.size≤9223372036854775807):tm s r x=some (((Ns s r x).1,(Ns s r x).2,()),()):=by
 rw[MC,(Cd hx).2.1,eE hs (by omega),lB]
 simp only[S1]
 unfold Ns
 cases h1:bi s with
 | false=>simp
 | true =>
  cases h2:bT r with
  | false=>simp
  | true =>
   cases h3:(fW x).2 with
   | false=>simp
   | true =>
    rw[Ep hl]
    simp only[S1,Bool.not_true,S9,U6]
    by_cases h4:(iz s r (fW x).1).length≤120
    ·rw[ax (by omega),S6 (by simp[h4])]
    ·rw[aC (by omega),S4 (by simp[h4])]
def oo (s:List ac):Prop:=s.length≤121 ∧ ∀ c∈s,c.2.1.size≤6401
theorem oo.sz {s:List ac} (h:oo s) : ∀ c∈s,c.2.1.size≤9223372036854775807:=fun c hc=>W7 (h.2 c hc) (by decide)
def Dj (s:List ac):Prop:=s.length≤120 ∧ ∀ c∈s,c.2.1.size≤6401
theorem Dj.up {s:List ac} (h:Dj s):oo s:=⟨by have:=h.1; omega,h.2⟩
theorem O4 {s:List ac} {r:aA} {x:S0} {n:Nat} (hs : ∀ c∈s,c.2.1.size≤n) (hx:x.size≤n) : ∀ c∈iz s r x,c.2.1.size≤n:=by
 intro c hc
 rcases px.1 hc with h | ⟨_,rfl⟩
 ·exact hs c h.1
 ·exact hx
theorem Nu {s:List ac} {r:aA} {x:S0} (h : ∀ c∈s,c.2.1.size≤6401):Dj (Ns s r x).1:=by
 unfold Ns
 split
 ·rename_i k
  exact⟨k.2.2.2,O4 h (W7 (Em x) (by decide))⟩
 ·exact⟨aa_ _,fun c hc=>by cases hc⟩
theorem Dk {β:Type} {Q:β→Prop} {s:List ac} {r:aA} {x:S0} {f:((List ac)×Bool×Unit)×Unit→Option β} (h:oo s) (hx:x.size≤6401) (k : ∀ z,Dj z.1.1→Ok Q (f z)):Ok Q ((tm s r x).bind f) :=
 Ok.bnd (P:=fun z=>Dj z.1.1) ⟨_,Nt (by have:=h.1; omega) h.sz (by omega),Nu h.2⟩ k
section
variable {c:List Int} (hc:zp c)
include hc
theorem JI {β:Type} {Q:β→Prop} {s:aE} {f:(S0×Unit)×aE×Unit→Option β} (h:Rd c s) (k : ∀ z,z.1.1.size≤6401→Rd c z.2.1→Ok Q (f z)):Ok Q ((ko s).bind f):=Ok.bnd (O3 hc h) fun z hz=>k z hz.1 hz.2
theorem AA : ∀(n:Nat) {s:aE} {a:List ac},n≤1000→Rd c s→oo a→Ok (fun z=>oo z.1.1∧Rd c z.2.1) (gT (n:Int) s a)
 | 0,s,a,_,h,ho=>by
  rw[oP,ax (by decide)]
  exact Ok.one ⟨ho,h⟩
 | n+1,s,a,hn,h,ho=>by
  have hw:IntKind.i64.wrap (((n+1:Nat):Int) - 1)=(n:Int):=by rw[wr (by omega) (by omega)]; omega
  rw[oP,aC (by omega),hw]
  refine yD hc h fun y _ hy=>eV hc hy (by decide) fun x h0 h1 hx=>Ok.inbL ⟨#[]⟩ h0 h1 (by decide) (by decide) (by decide) fun hk => ?_
  refine Dk ho (W7 hk (by decide)) fun w hw=>Ok.ite (fun _ => ?_) fun _ => ?_
  ·exact AA n (by omega) hx hw.up
  ·exact AA n (by omega) hx ho
theorem Ey : ∀(n:Nat) {s:aE} {a:List ac},n≤1000→Rd c s→oo a→Ok (fun z=>oo z.1.1∧Rd c z.2.1) (kJ a (n:Int) s)
 | 0,s,a,_,h,ho=>by
  rw[qD,ax (by decide)]
  exact Ok.one ⟨ho,h⟩
 | n+1,s,a,hn,h,ho=>by
  have hw:IntKind.i64.wrap (((n+1:Nat):Int) - 1)=(n:Int):=by rw[wr (by omega) (by omega)]; omega
  rw[qD,aC (by omega),hw]
  refine yD hc h fun y _ hy=>eV hc hy (by decide) fun x h0 h1 hx=>Ok.inbL ⟨#[]⟩ h0 h1 (by decide) (by decide) (by decide) fun hk => ?_
  refine Dk ho (W7 hk (by decide)) fun w hw=>Ok.ite (fun _ => ?_) fun _ => ?_
  ·exact AA hc n (by omega) hx hw.up
  ·exact Ey n (by omega) hx ho
end
theorem Sk (a b:ac):bV ar a b=decide (a=b):=by
 by_cases h:a=b
 ·rw[U2 h]; exact(lA rfl).2 h
 ·rw[U9 h,Bool.eq_false_iff]; exact fun k=>h ((lA rfl).1 k)
theorem Ez {α:Type} [DecidableEq α] {d:α} {xs ys:List α} {P:Int→Option ((Bool×Unit)×Unit)} (hl:xs.length≤1000000000) (hxy:ys.length=xs.length)
  (hP : ∀ i,P i=if(decide (i < (T5 xs:Int)))=true then(ix xs i d fun y1=>(ix ys i d fun y2=>(if(!(decide (y1=y2)))=true then(some ((false,()),(()))) else(P (dz_ ea_ (i+1)))))) else(some ((true,()),(())))) : ∀(a b pa pb:List α),xs=pa++a→ys=pb++b→pa.length=pb.length→P (pa.length:Int)=some ((decide (a=b),()),())
 | [],b,pa,pb,ha,hb,hp=>by
  have:b=[]:=by
   have e:=T4 T5 ha
   have e':=T4 T5 hb
   simp only[S5,V3] at e e'
   exact List.length_eq_zero_iff.1 (by omega)
  rw[hP,ax (bQ ha),this]
  rfl
 | x :: a,[],pa,pb,ha,hb,hp=>by
  have e:=T4 T5 ha
  have e':=T4 T5 hb
  simp only[S5,V3,T3] at e e'
  omega
 | x :: a,y :: b,pa,pb,ha,hb,hp=>by
  rw[hP,aC (bq ha),bk ha,hp,bk hb,←hp,aL ha (by omega),Ez hl hxy hP a b (pa++[x]) (pb++[y]) (aM ha) (aM hb) (by simp[hp])]
  by_cases e:x=y
  ·rw[U2 e]
   subst e
   simp
  ·rw[U9 e]
   simp[e]
theorem Rl {α:Type} {xs ys:List α}:((xs.length:Int) != (ys.length:Int)) = !decide (xs.length=ys.length):=by
 by_cases h:xs.length=ys.length
 ·simp[h]
 ·have:(xs.length:Int)≠(ys.length:Int):=by omega
  simp[h,this]
theorem wi {xs ys:List ac} (hl:xs.length≤1000000000):o4 xs ys=some ((decide (xs=ys),()),()):=by
 rw[E7,Rl]
 by_cases h:xs.length=ys.length
 ·rw[U2 h,S4 (by decide)]
  exact Ez (d:=ar.dflt) (P:=fun i=>kM xs ys i) hl h.symm (fun i=>by rw[zX]; simp only[Sk]) xs ys [] [] rfl rfl rfl
 ·rw[U9 h,S6 (by rfl),U9 (fun e=>h (T4 _ e))]
section
variable {c:List Int} (hc:zp c)
include hc
theorem HE {i:Int} (h2:0≤i) (h3:i≤(c.length:Int)):Ok (fun z=>(0≤z.1.1∧z.1.1≤255)∧Rd c z.2.1) (oV c i):=by
 have:=pB hc (s:=(c,i,())) ⟨rfl,h2,h3⟩
 rw[tw] at this
 rw[EJ]
 exact this
theorem Nv {n i:Int} (h2:0≤i) (h3:i≤(c.length:Int)) (hn:1≤n):Ok (fun z=>(0≤z.1.1∧z.1.1 < n)∧Rd c z.2.1) (r7 n c i):=by
 rw[CJ]
 refine Ok.ite (fun _=>Ok.one ⟨⟨af_ _,by show(0:Int) < n; omega⟩,rfl,h2,h3⟩) fun _=>Ok.ite (fun _ => ?_) fun _ => ?_
 ·refine Ok.bnd (HE hc h2 h3) fun z hz=>Ok.nz (by omega) (Ok.one ⟨⟨Int.tmod_nonneg _ hz.1.1,dw_ _ (by omega)⟩,hz.2⟩)
 ·refine Ok.bnd (HE hc h2 h3) fun z hz=>Ok.bnd (pB hc hz.2) fun y hy => ?_
  have h1:=hz.1
  have h2:=hy.1
  rw[wr (n:=z.1.1*256) (by omega) (by omega),wr (by omega) (by omega)]
  exact Ok.nz (by omega) (Ok.one ⟨⟨Int.tmod_nonneg _ (by omega),dw_ _ (by omega)⟩,hy.2⟩)
theorem Nw {β:Type} {Q:β→Prop} {s:aE} {a:List ac} {n:Int} {f:(List ac×Unit)×aE×Unit→Option β} (h:Rd c s) (ha:oo a) (h0:0≤n) (h1:n≤900) (k : ∀ z,oo z.1.1→Rd c z.2.1→Ok Q (f z)):Ok Q ((oY a n s).bind f):=by
 refine Ok.bnd (P:=fun z=>oo z.1.1∧Rd c z.2.1) ?_ fun z hz=>k z hz.1 hz.2
 rw[ES,wr (by omega) (by omega)]
 refine eV hc h (by omega) fun z z0 z1 hz => ?_
 obtain⟨m,hm⟩ : ∃ m:Nat,z.1.1=(m:Int):=⟨z.1.1.toNat,by omega⟩
 rw[hm]
 exact Ey hc m (by omega) hz ha
end
def Nx (l:List aV):Prop:=l.length≤240 ∧ ∀ c∈l,c.2.2.1.size≤6401
theorem Nx.set {l:List aV} (h:Nx l) {i:Nat} {x:aV} (hx:x.2.2.1.size≤6401):Nx (l.set i x):=by
 refine⟨by rw[bo_]; exact h.1,fun c hc => ?_⟩
 rcases List.mem_or_eq_of_mem_set hc with k | rfl
 ·exact h.2 c k
 ·exact hx
theorem Nx.at {l:List aV} (h:Nx l) {i:Nat}:(l.getD i (fA.dflt)).2.2.1.size≤6401:=by
 rw[V9]
 by_cases e:i < l.length
 ·rw[T9 e]; exact h.2 _ (bf_ e)
 ·rw[Z5 (by omega)]; decide
theorem Rm {β:Type} {Q:β→Prop} {d:aO} (h:bS d) {n:S0} (hn:n.size≤20) (x:Int) {f:_→Option β} (k : ∀ z:(aO×Int×Unit)×Unit,bS z.1.1→Ok Q (f z)):Ok Q ((n3 d n x).bind f):=Ok.bnd (P:=fun z=>bS z.1.1) ⟨_,Hx h (by omega) x,Ra h n x⟩ k
theorem Sl {β:Type} {Q:β→Prop} {d:aO} (h:bS d) (m n:S0) {f:_→Option β} (k : ∀ z:(aO×List aA×Int×Unit)×Unit,bS z.1.1→Ok Q (f z)):Ok Q ((rs d m n).bind f):=Ok.bnd (P:=fun z=>bS z.1.1) ⟨_,Hy h m n,Rb h m n⟩ k
theorem Rn {β:Type} {Q:β→Prop} {d:aO} (h:bS d) (n:S0) {s:List ac} (hs:oo s) {f:_→Option β} (k : ∀ z:(aO×Int×Int×Unit)×Unit,bS z.1.1→Ok Q (f z)):Ok Q ((il d n s).bind f):=Ok.bnd (P:=fun z=>bS z.1.1) ⟨_,wh h n (by have:=hs.1; omega) hs.sz,Q9 h n s⟩ k
theorem Ro {β:Type} {Q:β→Prop} {d:aO} (h:bS d) (n:S0) {f:_→Option β} (k : ∀ z:(Int×Unit)×Unit,Ok Q (f z)):Ok Q ((tl d n).bind f):=Ok.bnd (P:=fun _=>True) ⟨_,Ls h n,trivial⟩ fun z _=>k z
theorem RX {β:Type} {Q:β→Prop} {d:aO} (h:bS d) (n:S0) {f:_→Option β} (k : ∀ z:(Int×Unit)×Unit,Ok Q (f z)):Ok Q ((ik d n).bind f):=Ok.bnd (P:=fun _=>True) ⟨_,nh h.szd.bl n,trivial⟩ fun z _=>k z
theorem Rp {β:Type} {Q:β→Prop} {d:aO} (h:bS d) (x:Int) {f:_→Option β} (k : ∀ z:(List ac×Unit)×Unit,oo z.1.1→Ok Q (f z)):Ok Q ((hZ d x).bind f):=Ok.bnd (P:=fun z=>oo z.1.1) ⟨_,rQ h x,by
 have hs:=h.sheet x
 exact⟨by have:=dc hs; show(dG d.2.1 x).length≤121; omega,fun c hc=>W7 (mu hs c hc) (by decide)⟩⟩ k
def Rq:aO:=(2,[(1,[],[],())],[((⟨#[109,97,105,110]⟩:S0),1,())],())
theorem Qg:bS Rq:=by
 have hsh:bi ([]:List ac)=true:=eF.2 ⟨br_,(fun c hc=>by cases hc),aa_ _⟩
 refine⟨by decide,by decide,by decide,fun v hv => ?_,fun v hv => ?_,fun v hv => ?_,am_ _ _,fun b hb => ?_,am_ _ _⟩
 ·rw[U4.1 hv]
  decide
 ·rw[U4.1 hv]
  exact⟨aa_ _,(fun u hu=>by cases hu),br_⟩
 ·rw[U4.1 hv]
  exact hsh
 ·rw[U4.1 hb]
  exact⟨by decide +kernel,by decide⟩
theorem Rr {d:aO} (h:q7 d) {i:Int} (h0:0≤i) (h1:i < (d.2.1.length:Int)) (x:Int):q7 (d.1,d.2.1.set i.toNat (x,(d.2.1.getD i.toNat an.dflt).2.1,(d.2.1.getD i.toNat an.dflt).2.2.1,()),d.2.2.1,()):=by
 have hl:i.toNat < d.2.1.length:=by omega
 have he:d.2.1.getD i.toNat an.dflt∈d.2.1:=by
  rw[V9,T9 hl]
  exact bf_ hl
 generalize d.2.1.getD i.toNat an.dflt=e at *
 have hm : ∀ v∈d.2.1.set i.toNat (x,e.2.1,e.2.2.1,()),v∈d.2.1∨v=(x,e.2.1,e.2.2.1,()):=fun v hv=>List.mem_or_eq_of_mem_set hv
 refine⟨by show(d.2.1.set _ _).length≤_; rw[bo_]; exact h.vl,h.bl,fun v hv => ?_,fun v hv => ?_,fun v hv => ?_,h.bs⟩
 ·rcases hm v hv with hv | rfl
  ·exact h.ul v hv
  ·exact h.ul e he
 ·rcases hm v hv with hv | rfl
  ·exact h.sl v hv
  ·exact h.sl e he
 ·rcases hm v hv with hv | rfl
  ·exact h.ss v hv
  ·exact h.ss e he
section
variable {c:List Int} (hc:zp c)
include hc
theorem HF {β:Type} {Q:β→Prop} {a b:Int} {s:aE} {f:(Int×Unit)×aE×Unit→Option β} (h:Rd c s) (hab:0≤a∧a≤b∧b≤1000000) (k : ∀ z,Rd c z.2.1→Ok Q (f z)):Ok Q ((jt a b s).bind f):=Ok.bnd (Nq hc h hab) k
theorem t7 : ∀(k:Nat) {s:aE} {d:aO} {x2:Int} {x4:List ag} {x5:List ah},k≤1000→Rd c s→bS d→Ok (fun z=>q7 z.1.1∧Rd c z.2.1) (fM (k:Int) s x2 d.1 x4 x5 d.2.1 d.2.2.1)
 | 0,s,d,x2,x4,x5,_,h,hd=>by
  have hv:=hd.vl
  have hb:=hd.bl
  rw[rA,ax (by decide)]
  refine eV hc h (by decide) fun z _ _ hz=>Ok.ite (fun _ => ?_) fun _=>Ok.ite (fun _ => ?_) fun _=>Ok.ite (fun _ => ?_) fun _ => ?_
  ·refine HF hc hz (by decide) fun y hy=>Ok.one ⟨?_,hy⟩
   exact⟨hd.szd.vl,hd.szd.bl,hd.szd.ul,hd.szd.sl,hd.szd.ss,hd.szd.bs⟩
  ·refine eV hc hz (by omega) fun y y0 y1 hy=>HF hc hy (by decide) fun w hw=>Ok.inb ⟨y0,y1⟩ ?_
   unfold uv
   exact Ok.one ⟨Rr hd.szd y0 y1 _,hw⟩
  ·refine HF hc hz (by decide) fun y hy=>Ok.app (by simp only[S3]; omega) (Ok.one ⟨?_,hy⟩)
   refine⟨hd.szd.vl,by show(d.2.2.1++[_]).length≤_; rw[S5,S3]; omega,hd.szd.ul,hd.szd.sl,hd.szd.ss,fun b hb => ?_⟩
   rcases List.mem_append.1 hb with hb | hb
   ·exact hd.szd.bs b hb
   ·rw[U4.1 hb]
    show(⟨#[122,122]⟩:S0).size≤9223372036854775807
    decide
  ·exact Ok.one ⟨hd.szd,hz⟩
 | k+1,s,d,x2,x4,x5,hk,h,hd=>by
  have hnx:=hd.nx
  have hw:IntKind.i64.wrap (((k+1:Nat):Int) - 1)=(k:Int):=by rw[wr (by omega) (by omega)]; omega
  rw[rA,aC (by omega),hw]
  refine eV hc h (by decide) fun z z0 z1 hz=>Ok.inbL ⟨#[]⟩ z0 z1 (by decide) (by decide) (by decide) fun hn=>eV hc hz (by decide) fun y _ _ hy=>Ok.ite (fun _ => ?_) fun _=>Ok.ite (fun _ => ?_) fun _ => ?_
  ·exact eV hc hy (by omega) fun w _ _ hw=>Rm (d:=d) hd hn _ fun v hv=>t7 k (by omega) hw hv
  ·exact eV hc hy (by decide) fun w w0 w1 hw=>Ok.inbL ⟨#[]⟩ w0 w1 (by decide) (by decide) (by decide) fun hm=>Sl (d:=d) hd _ _ fun v hv=>t7 k (by omega) hw hv
  ·refine Ro (d:=d) hd _ fun v=>Ok.ite (fun _ => ?_) fun _ => ?_
   ·exact RX (d:=d) hd _ fun w=>Rm (d:=d) hd hn _ fun u hu=>Ro hu _ fun t=>Rp hu _ fun q hq=>Nw hc hy hq (by decide) (by decide) fun p hp hp'=>Rn hu _ hp fun o ho=>t7 k (by omega) hp' ho
   ·exact Rp (d:=d) hd _ fun q hq=>Nw hc hy hq (by decide) (by decide) fun p hp hp'=>Rn (d:=d) hd _ hp fun o ho=>t7 k (by omega) hp' ho
theorem Rs {n i:Int} (hn:0≤n∧n≤900) (h0:0≤i) (h1:i≤(c.length:Int)):Ok (fun z=>q7 z.1.1∧Rd c z.2.1) (xb n c i):=by
 rw[Gv,Kx,S1,wr (by omega) (by omega)]
 refine Ok.bnd (Nv hc h0 h1 (by omega)) fun z hz => ?_
 obtain⟨m,hm⟩ : ∃ m:Nat,z.1.1=(m:Int):=⟨z.1.1.toNat,by omega⟩
 rw[hm]
 exact t7 hc m (d:=Rq) (by omega) hz.2 Qg
end
end Go.Proofs.YtfffplonjaigkaaGreatDoor.Abs
