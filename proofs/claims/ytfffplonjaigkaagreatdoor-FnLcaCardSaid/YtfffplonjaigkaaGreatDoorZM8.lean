/- Plain laws of versions: finding, names; when they are right: both sides. -/
import Derived.Test.YtfffplonjaigkaaGreatDoorZM7
import Derived.Test.YtfffplonjaigkaaGreatDoorZM6
set_option linter.unusedVariables false
set_option linter.unusedSimpArgs false
set_option linter.unusedSectionVars false
open Bool renaming and_eq_true→P8,eq_iff_iff→V3,false_eq_true→P9,true_and→T3
open ByteArray renaming toList→P2
open Go.IntKind renaming i64→cj_,wrap→ci_
open Int renaming le_refl→W4,tmod_lt_of_pos→cf_,toNat_natCast→Z9,toNat→S6
open List renaming all_cons→X5,append_assoc→V2,append_nil→T8,getD_eq_getElem?_getD→S7,getD→S9,getElem?_eq_getElem→Q7,getElem?_eq_none_iff→ce_,getElem?_eq_none→W0,getElem?_eq_some_iff→Q9,getElem_mem→Z8,length_append→P6,length_cons→Q1,length_map→W1,length_nil→S4,length_set→ag_,length_singleton→P3,mem_of_getElem?→T2,mem_singleton→R7,nil_append→X6,pairwise_singleton→Y7
open List.Pairwise renaming nil→ab_
open Nat renaming le_refl→Q6,le_trans→T5,zero_le→Y6
open Option renaming bind_some→P1
open _root_ renaming ByteArray→P0,beq_iff_eq→T7,decide_eq_false→S3,decide_eq_true_eq→Q0,decide_eq_true→R5,if_false→R0,if_neg→P4,if_pos→P5
namespace Go.Proofs.YtfffplonjaigkaaGreatDoor.Abs
open Go
theorem dC (vs:List ak) (x:Int):decide (pK vs x < 0) = !cc vs x:=by
 rw[←E0]
 by_cases h:pK vs x < 0
 ·rw[R5 h,S3 (by omega)]
  rfl
 ·rw[S3 h,R5 (by omega)]
  rfl
theorem f2 {d:aV} (hl:d.2.1.length≤1000000000) (x:Int):fY d x=some ((pK d.2.1 x,()),()):=by
 rw[FT]
 exact tG (s:=d.2.1) (d:=ar.dflt) (p:=fun v=>v.1 == x) (P:=fun j=>mw x j d.1 d.2.1 d.2.2.1) (F:=fun j=>some ((j,()),())) (by omega) (fun j=>AO) d.2.1 [] rfl
theorem iK {d:aV} (hl:d.2.1.length≤1000000000) (x:Int):dA d x=some ((pK d.2.1 x,()),()):=by
 rw[zq,gk]
 have h:=tG (s:=d.2.1) (d:=ar.dflt) (p:=fun v=>v.1 == x) (P:=fun j=>bz d.2.1 (d.2.1.length:Int) j x) (F:=fun j=>some ((j,()),(x,()))) (by omega) (fun j=>by
  rw[fM]
  simp only[wF,P1]) d.2.1 [] rfl
 have h':bz d.2.1 (d.2.1.length:Int) 0 x=some ((pK d.2.1 x,()),(x,())):=h
 rw[h']
 rfl
theorem Oj (b:UInt8):[97,98,99,100,101,102,103,104,105,106,107,108,109,110,111,112,113,114,115,116,117,118,119,120,121,122].contains b=(decide (97≤b.toNat) && decide (b.toNat≤122)):=by
 have : ∀ n:Fin 256,[97,98,99,100,101,102,103,104,105,106,107,108,109,110,111,112,113,114,115,116,117,118,119,120,121,122].contains (UInt8.ofNat n.val)=(decide (97≤(UInt8.ofNat n.val).toNat) && decide ((UInt8.ofNat n.val).toNat≤122)):=by decide +kernel
 have h:=this ⟨b.toNat,UInt8.toNat_lt b⟩
 simpa using h
theorem KH (d cs:ae):(Lib.trimS d cs=[])↔d.all (fun b=>cs.contains b)=true:=by
 unfold Lib.trimS Lib.trimLeftS Lib.trimRightS
 rw[iI]
 constructor
 ·intro h
  cases hr:d.reverse.dropWhile (cs.contains ·) with
  | nil =>
   rw[iI] at hr
   simpa using hr
  | cons x t =>
   have hx:=tA hr
   rw[hr] at h
   simp only[List.all_reverse,X5,P8] at h
   rw[hx] at h
   cases h.1
 ·intro h
  have:d.reverse.dropWhile (cs.contains ·)=[]:=iI.2 (by simpa using h)
  rw[this]
  rfl
theorem Ni {x c:P0} (h:mJ c=true) (hx:x.size≤9223372036854775807):iA x c=some ((ba (Lib.trimS (lb x) (lb c)),()),()):=by
 rw[p6]
 exact P5 ⟨h,hx⟩
theorem E5 {x:P0} (h:x.size≤9223372036854775807):AE x=some ((m7 x,()),()):=by
 rw[Ie]
 unfold m7
 by_cases h1:1≤x.size
 ·rw[ay (by omega),R5 h1]
  by_cases h2:x.size≤12
  ·rw[ay (by omega),R5 h2,show(⟨#[97,98,99,100,101,102,103,104,105,106,107,108,109,110,111,112,113,114,115,116,117,118,119,120,121,122]⟩:P0)=ba [97,98,99,100,101,102,103,104,105,106,107,108,109,110,111,112,113,114,115,116,117,118,119,120,121,122] from rfl,Ni (by decide +kernel) h,P1,dc]
   have e0 : ∀ x:ae,(P2 (ba x) == P2 (⟨#[]⟩:P0))=decide (x=[]):=fun x=>cY (b:=[])
   dsimp only
   rw[e0]
   congr 3
   rw[T3,T3,V3,Q0,KH]
   rw[show(fun b:UInt8=>List.contains [97,98,99,100,101,102,103,104,105,106,107,108,109,110,111,112,113,114,115,116,117,118,119,120,121,122] b)=fun b=>(decide (97≤b.toNat) && decide (b.toNat≤122)) from funext Oj]
  ·rw[aq (by omega),S3 h2]
   rfl
 ·rw[aq (by omega),S3 h1]
  rfl
theorem Ai {l:ae} (hl:l.length≤1000) : ∀(ys pre:ae),l=pre++ys→my (ba l) (pre.length:Int)=some ((ys.all (fun b=>decide (97≤b.toNat) && decide (b.toNat≤122)),()),())
 | [],pre,h=>by
  rw[rN,aJ,aq (bV h)]
  rfl
 | y :: ys,pre,h=>by
  rw[rN,aJ,ay (bo h),fO h,fO h,aH h (by omega),Ai hl ys _ (aI h),X5]
  by_cases h1:y.toNat < 97
  ·rw[ay (by omega),S3 (by omega)]
   simp
  ·rw[aq (by omega),R5 (p:=97≤y.toNat) (by omega)]
   by_cases h2:122 < y.toNat
   ·rw[ay (by omega),S3 (by omega)]
    simp
   ·rw[aq (by omega),R5 (p:=y.toNat≤122) (by omega)]
    simp
theorem yl {x:P0} (h:x.size≤9223372036854775807):sV x=some ((m7 x,()),()):=by
 rw[FU]
 unfold m7
 by_cases h1:1≤x.size
 ·rw[aq (by omega),R5 h1]
  by_cases h2:x.size≤12
  ·rw[aq (by omega),R5 h2]
   have:=Ai (l:=lb x) (by rw[wq]; omega) (lb x) [] rfl
   rw[ic] at this
   exact this
  ·rw[ay (by omega),S3 h2]
   simp
 ·rw[ay (by omega),S3 h1]
  simp
structure vR (d:aV):Prop where
 vl:d.2.1.length≤1000000000
 bl:d.2.2.1.length≤1000000000
 ul : ∀ v∈d.2.1,v.2.1.length≤1000000000
 sl : ∀ v∈d.2.1,v.2.2.1.length≤1000000000
 ss : ∀ v∈d.2.1,∀ c∈v.2.2.1,c.2.1.size≤9223372036854775807
 bs : ∀ b∈d.2.2.1,b.1.size≤9223372036854775807
theorem oh {α β:Type} {s q ys:List α} {z y d:α} {f:α→Option β} (h:s=(q++[z])++y :: ys) (hl:s.length≤1000000000000):ix s (ci_ cj_ (((q++[z]).length:Int) - 1)) d f=f z:=by
 have hq:((q++[z]).length:Int) - 1=(q.length:Int):=by simp
 have hlt:q.length < s.length:=by rw[h]; simp
 rw[hq,wr (by omega) (by omega)]
 exact bk (pre:=q) (ys:=y :: ys) (by rw[h]; simp)
section
variable {d:aV} (hz:vR d)
include hz
theorem Ha {us:List Int} (hu:us.length≤1000000000) (id:Int):nS d us id=some ((pL d.2.1 id us && decide (us.length≤2),()),()):=by
 rw[CC]
 have h:=og (ok:=fun u=>decide (u < id) && cc d.2.1 u) (lt:=fun a b:Int=>decide (a < b)) (s:=us) (P:=fun j=>dl us id us (us.length:Int) j d.1 d.2.1 d.2.2.1) (T:=some ((decide (us.length≤2),()),())) (F:=some ((false,()),()))
  (by
   show dl us id us (us.length:Int) (us.length:Int) d.1 d.2.1 d.2.2.1=_
   rw[ka,aq (by omega)]
   congr 3
   rw[V3,Q0,Q0]
   omega)
  (fun y ys h=>by
   show dl us id us (us.length:Int) (([]:List Int).length:Int) d.1 d.2.1 d.2.2.1=_
   rw[ka,ay (bo (pre:=[]) h),bk (pre:=[]) h,aH (pre:=[]) h (by omega),show((d.1,d.2.1,d.2.2.1,()):aV)=d from rfl,iK hz.vl,P1]
   dsimp only
   rw[dC]
   by_cases h1:y < id
   ·rw[aq (by omega),R5 h1]
    cases cc d.2.1 y with
    | false=>simp
    | true =>
     rw[P4 (by decide)]
     rw[aq (by simp)]
     simp
   ·rw[ay (by omega),S3 h1]
    simp)
  (fun q z y ys h=>by
   show dl us id us (us.length:Int) ((q++[z]).length:Int) d.1 d.2.1 d.2.2.1=_
   rw[ka,ay (bo h),bk h,aH h (by omega),show((d.1,d.2.1,d.2.2.1,()):aV)=d from rfl,iK hz.vl,P1]
   dsimp only
   rw[dC]
   by_cases h1:y < id
   ·rw[aq (by omega),R5 h1]
    cases cc d.2.1 y with
    | false=>simp
    | true =>
     rw[P4 (by decide)]
     rw[ay (by rw[P6,P3]; omega),oh h (by omega)]
     by_cases h2:z < y
     ·rw[aq (by omega),R5 h2]
      simp
     ·rw[ay (by omega),S3 h2]
      simp
   ·rw[ay (by omega),S3 h1]
    simp)
 have h':dl us id us (us.length:Int) 0 d.1 d.2.1 d.2.2.1=_:=h
 rw[h']
 show(if pL d.2.1 id us=true then _ else _)=_
 cases pL d.2.1 id us <;> simp
theorem KI:dX d.2.2.1 (d.2.2.1.length:Int) 0 d.1 d.2.1 d.2.2.1=some ((qU d.2.1 d.2.2.1,()),()):=by
 have hb:=hz.bl
 have h:=og (ok:=fun b:an=>m7 b.1 && cc d.2.1 b.2.1) (lt:=fun a b:an=>gq a.1 b.1) (s:=d.2.2.1) (P:=fun j=>dX d.2.2.1 (d.2.2.1.length:Int) j d.1 d.2.1 d.2.2.1) (T:=some ((true,()),())) (F:=some ((false,()),()))
  (by
   show dX d.2.2.1 (d.2.2.1.length:Int) (d.2.2.1.length:Int) d.1 d.2.1 d.2.2.1=_
   rw[ni,aq (by omega)])
  (fun y ys h=>by
   show dX d.2.2.1 (d.2.2.1.length:Int) (([]:List an).length:Int) d.1 d.2.1 d.2.2.1=_
   rw[ni,ay (bo (pre:=[]) h),bk (pre:=[]) h,aH (pre:=[]) h (by omega),show((d.1,d.2.1,d.2.2.1,()):aV)=d from rfl,E5 (hz.bs y (by rw[h]; simp)),P1,iK hz.vl,P1]
   dsimp only
   rw[dC]
   cases m7 y.1 with
   | false=>simp
   | true =>
    rw[P4 (by decide)]
    rw[aq (by simp)]
    cases cc d.2.1 y.2.1 <;> simp)
  (fun q z y ys h=>by
   show dX d.2.2.1 (d.2.2.1.length:Int) ((q++[z]).length:Int) d.1 d.2.1 d.2.2.1=_
   rw[ni,ay (bo h),bk h,aH h (by omega),show((d.1,d.2.1,d.2.2.1,()):aV)=d from rfl,E5 (hz.bs y (by rw[h]; simp)),P1,iK hz.vl,P1]
   dsimp only
   rw[dC]
   cases m7 y.1 with
   | false=>simp
   | true =>
    rw[P4 (by decide)]
    rw[ay (by rw[P6,P3]; omega),oh h (by omega)]
    show(if(!gq z.1 y.1)=true then _ else _)=_
    cases gq z.1 y.1 <;> cases cc d.2.1 y.2.1 <;> simp)
 have h':dX d.2.2.1 (d.2.2.1.length:Int) 0 d.1 d.2.1 d.2.2.1=_:=h
 rw[h']
 show(if qU d.2.1 d.2.2.1=true then _ else _)=_
 cases qU d.2.1 d.2.2.1 <;> rfl
theorem Cf:zi d=some ((fR d,()),()):=by
 have hv:=hz.vl
 have hb:=hz.bl
 rw[J1,dY,P1]
 dsimp only
 unfold fR
 cases h1:ce d.1 2 1000000000 with
 | false=>simp
 | true =>
  have hn:=bK.1 h1
  rw[P4 (by decide),dY,P1]
  dsimp only
  cases h2:ce (d.2.1.length:Int) 1 40 with
  | false=>simp
  | true =>
   rw[P4 (by decide),dY,P1]
   dsimp only
   cases h3:ce (d.2.2.1.length:Int) 1 8 with
   | false=>simp
   | true =>
    rw[P4 (by decide)]
    have h:=og (ok:=vP d.2.1 d.1) (lt:=fun a b:ak=>decide (a.1 < b.1)) (s:=d.2.1) (P:=fun j=>fJ d.2.1 (d.2.1.length:Int) j d.1 d.2.1 d.2.2.1) (T:=some ((qU d.2.1 d.2.2.1,()),())) (F:=some ((false,()),()))
     (by
      show fJ d.2.1 (d.2.1.length:Int) (d.2.1.length:Int) d.1 d.2.1 d.2.2.1=_
      rw[pq,aq (by omega)]
      exact KI hz)
     (fun y ys h=>by
      have hy:y∈d.2.1:=by rw[h]; simp
      show fJ d.2.1 (d.2.1.length:Int) (([]:List ak).length:Int) d.1 d.2.1 d.2.2.1=_
      rw[pq,ay (bo (pre:=[]) h),bk (pre:=[]) h,aH (pre:=[]) h (by omega),show((d.1,d.2.1,d.2.2.1,()):aV)=d from rfl,wr (n:=d.1 - 1) (by omega) (by omega)]
      simp only[dY,P1,Ha hz (hz.ul y hy),xg (hz.ss y hy) (hz.sl y hy)]
      unfold vP
      rw[aq (by simp)]
      cases ce y.1 1 (d.1 - 1) <;> cases pL d.2.1 y.1 y.2.1 <;> cases bd y.2.2.1 <;> by_cases hl:y.2.1.length≤2 <;> simp[hl])
     (fun q z y ys h=>by
      have hy:y∈d.2.1:=by rw[h]; simp
      show fJ d.2.1 (d.2.1.length:Int) ((q++[z]).length:Int) d.1 d.2.1 d.2.2.1=_
      rw[pq,ay (bo h),bk h,aH h (by omega),show((d.1,d.2.1,d.2.2.1,()):aV)=d from rfl,wr (n:=d.1 - 1) (by omega) (by omega)]
      simp only[dY,P1,Ha hz (hz.ul y hy),xg (hz.ss y hy) (hz.sl y hy)]
      unfold vP
      rw[ay (by rw[P6,P3]; omega),oh h (by omega)]
      by_cases h2:z.1 < y.1
      ·rw[aq (by omega),R5 h2]
       cases ce y.1 1 (d.1 - 1) <;> cases pL d.2.1 y.1 y.2.1 <;> cases bd y.2.2.1 <;> by_cases hl:y.2.1.length≤2 <;> simp[hl]
      ·rw[ay (by omega),S3 h2]
       cases ce y.1 1 (d.1 - 1) <;> simp)
    have h':fJ d.2.1 (d.2.1.length:Int) 0 d.1 d.2.1 d.2.2.1=_:=h
    rw[h']
    show(if Ba d.2.1 d.1=true then _ else _)=_
    cases Ba d.2.1 d.1 <;> simp
theorem KJ:dW 0 d.1 d.2.1 d.2.2.1=some ((qU d.2.1 d.2.2.1,()),()):=by
 have hb:=hz.bl
 have h:=og (ok:=fun b:an=>m7 b.1 && cc d.2.1 b.2.1) (lt:=fun a b:an=>gq a.1 b.1) (s:=d.2.2.1) (P:=fun j=>dW j d.1 d.2.1 d.2.2.1) (T:=some ((true,()),())) (F:=some ((false,()),()))
  (by
   show dW (d.2.2.1.length:Int) d.1 d.2.1 d.2.2.1=_
   rw[nh,aq (by omega)])
  (fun y ys h=>by
   show dW (([]:List an).length:Int) d.1 d.2.1 d.2.2.1=_
   rw[nh,ay (bo (pre:=[]) h),bk (pre:=[]) h,aH (pre:=[]) h (by omega),show((d.1,d.2.1,d.2.2.1,()):aV)=d from rfl,yl (hz.bs y (by rw[h]; simp)),P1,f2 hz.vl,P1]
   dsimp only
   rw[dC]
   cases m7 y.1 with
   | false=>simp
   | true =>
    rw[P4 (by decide)]
    rw[aq (by simp)]
    cases cc d.2.1 y.2.1 <;> simp)
  (fun q z y ys h=>by
   show dW ((q++[z]).length:Int) d.1 d.2.1 d.2.2.1=_
   rw[nh,ay (bo h),bk h,aH h (by omega),show((d.1,d.2.1,d.2.2.1,()):aV)=d from rfl,yl (hz.bs y (by rw[h]; simp)),P1,f2 hz.vl,P1]
   dsimp only
   rw[dC]
   cases m7 y.1 with
   | false=>simp
   | true =>
    rw[P4 (by decide)]
    rw[ay (by rw[P6,P3]; omega),oh h (by omega)]
    show(if(!cc d.2.1 y.2.1)=true then _ else if(!gq z.1 y.1)=true then _ else _)=_
    cases gq z.1 y.1 <;> cases cc d.2.1 y.2.1 <;> simp)
 have h':dW 0 d.1 d.2.1 d.2.2.1=_:=h
 rw[h']
 show(if qU d.2.1 d.2.2.1=true then _ else _)=_
 cases qU d.2.1 d.2.2.1 <;> rfl
theorem Cg {us:List Int} (hu:us.length≤1000000000) (i id:Int) (sh:List af):dV i 0 d.1 d.2.1 d.2.2.1 id us sh=if pL d.2.1 id us=true then eP (ci_ cj_ (i+1)) d.1 d.2.1 d.2.2.1 else some ((false,()),()):=by
 have h:=og (ok:=fun u=>decide (u < id) && cc d.2.1 u) (lt:=fun a b:Int=>decide (a < b)) (s:=us) (P:=fun j=>dV i j d.1 d.2.1 d.2.2.1 id us sh) (T:=eP (ci_ cj_ (i+1)) d.1 d.2.1 d.2.2.1) (F:=some ((false,()),()))
  (by
   show dV i (us.length:Int) d.1 d.2.1 d.2.2.1 id us sh=_
   rw[ng,aq (by omega)])
  (fun y ys h=>by
   show dV i (([]:List Int).length:Int) d.1 d.2.1 d.2.2.1 id us sh=_
   rw[ng,ay (bo (pre:=[]) h)]
   simp only[bk (pre:=[]) h]
   rw[aH (pre:=[]) h (by omega),show((d.1,d.2.1,d.2.2.1,()):aV)=d from rfl,f2 hz.vl,P1]
   dsimp only
   rw[dC]
   by_cases h1:y < id
   ·rw[aq (by omega),R5 h1]
    cases cc d.2.1 y with
    | false=>simp
    | true =>
     rw[P4 (by decide)]
     rw[aq (by simp)]
     simp
   ·rw[ay (by omega),S3 h1]
    simp)
  (fun q z y ys h=>by
   show dV i ((q++[z]).length:Int) d.1 d.2.1 d.2.2.1 id us sh=_
   rw[ng,ay (bo h)]
   simp only[bk h]
   rw[aH h (by omega),show((d.1,d.2.1,d.2.2.1,()):aV)=d from rfl,f2 hz.vl,P1]
   dsimp only
   rw[dC]
   by_cases h1:y < id
   ·rw[aq (by omega),R5 h1]
    cases cc d.2.1 y with
    | false=>simp
    | true =>
     rw[P4 (by decide)]
     rw[ay (by rw[P6,P3]; omega),oh h (by omega)]
     by_cases h2:z < y
     ·rw[aq (by omega),R5 h2]
      simp
     ·rw[ay (by omega),S3 h2]
      simp
   ·rw[ay (by omega),S3 h1]
    simp)
 exact h
theorem kJ:mN d=some ((fR d,()),()):=by
 have hv:=hz.vl
 have hb:=hz.bl
 rw[JU,iG,P1]
 dsimp only
 unfold fR
 cases h1:ce d.1 2 1000000000 with
 | false=>simp
 | true =>
  have hn:=bK.1 h1
  rw[P4 (by decide)]
  cases h2:ce (d.2.1.length:Int) 1 40 with
  | false =>
   have h2' : ¬((1:Int)≤(d.2.1.length:Int)∧(d.2.1.length:Int)≤40):=fun h=>by rw[bK.2 h] at h2; cases h2
   by_cases h4:(d.2.1.length:Int) < 1
   ·rw[ay h4]
    simp
   ·rw[aq h4,ay (by omega)]
    simp
  | true =>
   have h2':=bK.1 h2
   rw[aq (by omega),aq (by omega)]
   cases h3:ce (d.2.2.1.length:Int) 1 8 with
   | false =>
    have h3' : ¬((1:Int)≤(d.2.2.1.length:Int)∧(d.2.2.1.length:Int)≤8):=fun h=>by rw[bK.2 h] at h3; cases h3
    by_cases h4:(d.2.2.1.length:Int) < 1
    ·rw[ay h4]
     simp
    ·rw[aq h4,ay (by omega)]
     simp
   | true =>
    have h3':=bK.1 h3
    rw[aq (by omega),aq (by omega)]
    have h:=og (ok:=vP d.2.1 d.1) (lt:=fun a b:ak=>decide (a.1 < b.1)) (s:=d.2.1) (P:=fun j=>eP j d.1 d.2.1 d.2.2.1) (T:=some ((qU d.2.1 d.2.2.1,()),())) (F:=some ((false,()),()))
     (by
      show eP (d.2.1.length:Int) d.1 d.2.1 d.2.2.1=_
      rw[pj,aq (by omega)]
      exact KJ hz)
     (fun y ys h=>by
      have hy:y∈d.2.1:=by rw[h]; simp
      show eP (([]:List ak).length:Int) d.1 d.2.1 d.2.2.1=_
      rw[pj,ay (bo (pre:=[]) h),bk (pre:=[]) h,wr (n:=d.1 - 1) (by omega) (by omega)]
      simp only[iG,P1,Cg hz (hz.ul y hy),d7 (hz.ss y hy) (by have:=hz.sl y hy; omega)]
      rw[aH (pre:=[]) h (by omega)]
      unfold vP
      rw[aq (by simp)]
      cases ce y.1 1 (d.1 - 1) <;> cases pL d.2.1 y.1 y.2.1 <;> cases bd y.2.2.1 <;> by_cases hl:y.2.1.length≤2 <;> simp[hl] <;> omega)
     (fun q z y ys h=>by
      have hy:y∈d.2.1:=by rw[h]; simp
      show eP ((q++[z]).length:Int) d.1 d.2.1 d.2.2.1=_
      rw[pj,ay (bo h),bk h,wr (n:=d.1 - 1) (by omega) (by omega)]
      simp only[iG,P1,Cg hz (hz.ul y hy),d7 (hz.ss y hy) (by have:=hz.sl y hy; omega)]
      rw[aH h (by omega)]
      unfold vP
      rw[ay (by rw[P6,P3]; omega),oh h (by omega)]
      by_cases h2:z.1 < y.1
      ·rw[aq (by omega),R5 h2]
       cases ce y.1 1 (d.1 - 1) <;> cases pL d.2.1 y.1 y.2.1 <;> cases bd y.2.2.1 <;> by_cases hl:y.2.1.length≤2 <;> simp[hl] <;> omega
      ·rw[ay (by omega),S3 h2]
       cases ce y.1 1 (d.1 - 1) <;> simp)
    have h':eP 0 d.1 d.2.1 d.2.2.1=_:=h
    rw[h']
    show(if Ba d.2.1 d.1=true then _ else _)=_
    cases Ba d.2.1 d.1 <;> simp
end
theorem Hb {l:List Int} (hl:l.length≤1000000000) (y:Int):cL l y=some ((decide (y∈l),()),()):=by
 have h:ck l y (l.length:Int) 0=some ((qS (fun z=>y == z) l 0,()),()):=tG (s:=l) (d:=0) (p:=fun z=>y == z) (P:=fun j=>ck l y (l.length:Int) j) (F:=fun j=>some ((j,()),())) (by omega) (fun j=>kb) l [] rfl
 rw[j9,lD,h]
 simp only[P1,yg]
 have e:(l.any fun z=>y == z)=decide (y∈l):=by
  rw[V3,List.any_eq_true,Q0]
  constructor
  ·rintro⟨z,hz,h⟩
   rw[T7] at h
   rw[h]
   exact hz
  ·intro h
   exact⟨y,h,by simp⟩
 rw[e]
theorem Ch {l:List Int} {y:Int} (hl:l.length≤1000000000) : ∀(ys pre:List Int),l=pre++ys→nW l y (pre.length:Int)=some ((decide (y∈ys),()),())
 | [],pre,h=>by
  rw[tT,aq (bV h)]
  simp
 | z :: ys,pre,h=>by
  rw[tT,ay (bo h),bk h,aH h (by omega),Ch hl ys _ (aI h)]
  by_cases e:z=y
  ·rw[P5 (by simpa using e)]
   simp[e]
  ·rw[P4 (by simpa using e)]
   simp[Ne.symm e]
theorem sc {l:List Int} (hl:l.length≤1000000000) (y:Int):l4 l y=some ((decide (y∈l),()),()):=by
 rw[H2]
 exact Ch hl l [] rfl
theorem KK {vs:List ak} {x:Int} (hx:cc vs x=true) : ∃ v∈vs,v.1=x ∧ ∀ {β:Type} (d:ak) (F:ak→Option β),ix vs (pK vs x) d F=F v:=by
 have h0:pK vs x ≠ -1:=by
  have:=E0 (vs:=vs) (id:=x)
  rw[hx,Q0] at this
  omega
 obtain⟨pre,v,ys,h1,h2,h3,h4⟩:=G4 h0
 refine⟨v,by rw[h1]; simp,by simpa using h2,fun d F => ?_⟩
 have h5:pK vs x=(pre.length:Int):=by
  rw[show pK vs x=_ from h4]
  simp
 rw[h5]
 exact bk h1
theorem E6 {l:List Int} (hl:l.length≤1000000000):ej l=some ((),l.mergeSort (fun x y=>decide (x≤y)),()):=by
 rw[lr]
 unfold kv
 simp only[g9?,dite_true,P1]
 exact P5 (by omega)
section
variable {d:aV} (h:ch d)
include h
theorem wD:(cl d.2.1).length≤40:=by
 unfold cl
 rw[W1]
 exact h.vl.2
theorem wE {out:List Int} (hd:out.Nodup) (hs : ∀ x∈out,x∈cl d.2.1):out.length≤40:=T5 (m6 _ _ hd hs) (wD h)
omit h in
theorem Bb {k:Int} {us:List Int} (hu:us.length≤1000) : ∀(ys pre out:List Int),us=pre++ys→out.length+ys.length≤1000000→fz k us (us.length:Int) (pre.length:Int) d.1 d.2.1 d.2.2.1 out=gX (ci_ cj_ (k+1)) d.1 d.2.1 d.2.2.1 (gR out ys)
 | [],pre,out,e,hb=>by
  rw[pw,aq (bV e)]
  rfl
 | y :: ys,pre,out,e,hb=>by
  rw[Q1] at hb
  rw[pw,ay (bo e),bk e,aH e (by omega),Hb (by omega),P1,KB]
  dsimp only
  by_cases hy:y∈out
  ·rw[P4 (by simp[hy]),P5 hy]
   exact Bb hu ys _ out (aI e) (by omega)
  ·rw[P5 (by simp[hy]),P4 hy,bv (by simp only[P3]; omega)]
   exact Bb hu ys _ _ (aI e) (by simp only[P6,P3]; omega)
theorem E7 {out:List Int} {k:Nat} {x:Int} (hs : ∀ z∈out,z∈cl d.2.1) (hk:out[k]? = some x) : ∃ v∈d.2.1,v.1=x∧v.2.1=vQ d.2.1 x ∧ ∀ {β:Type} (e:ak) (F:ak→Option β),ix d.2.1 (pK d.2.1 x) e F=F v:=by
 obtain⟨v,hv,e,hF⟩:=KK (eG.2 (hs x (T2 hk)))
 exact⟨v,hv,e,by rw[←e,E1 h.vr hv],hF⟩
theorem E8 {out:List Int} {x:Int} (hd:out.Nodup) (hs : ∀ z∈out,z∈cl d.2.1) (hx:x∈cl d.2.1):(gR out (vQ d.2.1 x)).Nodup ∧ ∀ z∈gR out (vQ d.2.1 x),z∈cl d.2.1 :=
 ⟨n5 _ _ hd,fun z hz=>((kj _ _ _).1 hz).elim (hs z) (h.closed x hx z)⟩
theorem E9 : ∀(n k:Nat) (out:List Int),out.Nodup→(∀ x∈out,x∈cl d.2.1)→(cl d.2.1).length≤k+n→k≤1000→gX (k:Int) d.1 d.2.1 d.2.2.1 out=some (((lC (vQ d.2.1) n k out).mergeSort (fun x y=>decide (x≤y)),()),())
 | 0,k,out,hd,hs,hn,hk=>by
  have:=m6 _ _ hd hs
  have hl:=wE h hd hs
  rw[ke,aq (by omega),E6 (by omega)]
  rfl
 | n+1,k,out,hd,hs,hn,hk=>by
  have hl:=wE h hd hs
  unfold lC
  cases hx:out[k]? with
  | none =>
   have:out.length≤k:=ce_.1 hx
   rw[ke,aq (by omega),E6 (by omega)]
   rfl
  | some x =>
   have hlt:=(Q9.1 hx).1
   obtain⟨v,hv,e1,e2,hF⟩:=E7 h hs hx
   have hg:S9 out (S6 (k:Int)) 0=x:=by
    rw[Z9,S7,hx]
    rfl
   have hup:=(h.up v hv).1
   have hn1:=E8 h hd hs (hs x (T2 hx))
   rw[ke,ay (by omega),iE (nn _) (by omega),show((d.1,d.2.1,d.2.2.1,()):aV)=d from rfl,iK (by have:=h.vl; omega),P1,hg]
   dsimp only
   rw[hF,show fz (k:Int) v.2.1 (v.2.1.length:Int) 0 d.1 d.2.1 d.2.2.1 out=_ from Bb (k:=(k:Int)) (us:=v.2.1) (by omega) v.2.1 [] out rfl (by omega),nH (n:=(k:Int)+1) (by omega) (by omega),e2]
   exact E9 n (k+1) _ hn1.1 hn1.2 (by omega) (by have:=wD h; omega)
theorem vS {a:Int} (ha:a∈cl d.2.1):lp d a=some ((cE d.2.1 a,()),()):=by
 have e:=E9 h (d.2.1.length+1) 0 [a] (by simp) (fun x hx=>by rw[R7.1 hx]; exact ha) (by unfold cl; rw[W1]; omega) (by omega)
 rw[CK]
 refine Eq.trans e ?_
 rw[←Mc h ha]
 rfl
omit h in
theorem Bc {k:Int} {id:Int} {us:List Int} {sh:List af} (hu:us.length≤1000) : ∀(ys pre out:List Int),us=pre++ys→out.length+ys.length≤1000000→gi k (pre.length:Int) d.1 d.2.1 d.2.2.1 out id us sh=iB (ci_ cj_ (k+1)) d.1 d.2.1 d.2.2.1 (gR out ys)
 | [],pre,out,e,hb=>by
  rw[qa,aq (bV e)]
  rfl
 | y :: ys,pre,out,e,hb=>by
  rw[Q1] at hb
  rw[qa,ay (bo e),bk e,aH e (by omega),sc (by omega),P1,KB]
  dsimp only
  by_cases hy:y∈out
  ·rw[P4 (by simp[hy]),P5 hy]
   exact Bc hu ys _ out (aI e) (by omega)
  ·rw[P5 (by simp[hy]),P4 hy,bk e,bv (by simp only[P3]; omega)]
   exact Bc hu ys _ _ (aI e) (by simp only[P6,P3]; omega)
omit h in
theorem tK {st:List Int} (hl:d.2.1.length≤1000000) (hs:st.length≤1000000) : ∀(ys pre:List ak) (acc:List Int),d.2.1=pre++ys→acc.length≤pre.length→gZ (pre.length:Int) d.1 d.2.1 d.2.2.1 st acc=some ((acc++(cl ys).filter (fun x=>decide (x∈st)),()),())
 | [],pre,acc,e,hb=>by
  rw[pv,aq (bV e)]
  simp[cl]
 | y :: ys,pre,acc,e,hb=>by
  have hlen:d.2.1.length=pre.length+(ys.length+1):=by rw[e]; simp
  rw[pv,ay (bo e),bk e,sc (by omega),P1,aH e (by omega)]
  dsimp only
  by_cases hy:y.1∈st
  ·rw[P5 (by simp[hy]),bk e,bv (by simp only[P3]; omega),tK hl hs ys _ _ (aI e) (by simp only[P6,P3]; omega)]
   simp[cl,hy]
  ·rw[P4 (by simp[hy]),tK hl hs ys _ _ (aI e) (by simp only[P6,P3]; omega)]
   simp[cl,hy]
theorem Fa : ∀(n k:Nat) (out:List Int),out.Nodup→(∀ x∈out,x∈cl d.2.1)→(cl d.2.1).length≤k+n→k≤1000→iB (k:Int) d.1 d.2.1 d.2.2.1 out=some (((cl d.2.1).filter (fun x=>decide (x∈lC (vQ d.2.1) n k out)),()),())
 | 0,k,out,hd,hs,hn,hk=>by
  have:=m6 _ _ hd hs
  have hl:=wE h hd hs
  have hv:=h.vl
  rw[lu,aq (by omega)]
  exact tK (d:=d) (by omega) (by omega) d.2.1 [] [] rfl (Q6 _)
 | n+1,k,out,hd,hs,hn,hk=>by
  have hl:=wE h hd hs
  have hvl:=h.vl
  unfold lC
  cases hx:out[k]? with
  | none =>
   have:out.length≤k:=ce_.1 hx
   rw[lu,aq (by omega)]
   exact tK (d:=d) (by omega) (by omega) d.2.1 [] [] rfl (Q6 _)
  | some x =>
   have hlt:=(Q9.1 hx).1
   obtain⟨v,hv,e1,e2,hF⟩:=E7 h hs hx
   have hg:S9 out (S6 (k:Int)) 0=x:=by
    rw[Z9,S7,hx]
    rfl
   have hup:=(h.up v hv).1
   have hn1:=E8 h hd hs (hs x (T2 hx))
   rw[lu,ay (by omega),iE (nn _) (by omega),show((d.1,d.2.1,d.2.2.1,()):aV)=d from rfl,f2 (by omega),P1,hg]
   dsimp only
   rw[hF,show gi (k:Int) 0 d.1 d.2.1 d.2.2.1 out v.1 v.2.1 v.2.2.1=_ from Bc (d:=d) (k:=(k:Int)) (us:=v.2.1) (by omega) v.2.1 [] out rfl (by omega),nH (n:=(k:Int)+1) (by omega) (by omega),e2]
   exact Fa n (k+1) _ hn1.1 hn1.2 (by omega) (by have:=wD h; omega)
theorem m8 {a:Int} (ha:a∈cl d.2.1):iy d a=some ((cE d.2.1 a,()),()):=by
 have e:=Fa h (d.2.1.length+1) 0 [a] (by simp) (fun x hx=>by rw[R7.1 hx]; exact ha) (by unfold cl; rw[W1]; omega) (by omega)
 rw[D2]
 exact e
theorem kk (a:Int):(cE d.2.1 a).length≤40:=T5 (List.length_filter_le _ _) (wD h)
omit h in
theorem vU {x y:List Int} (hx:x.length≤1000000) (hy:y.length≤1000000) : ∀(ys pre:List Int) (o:Int),x=pre++ys→jD o (x.length:Int) (pre.length:Int) y x=some ((cS y ys o,()),())
 | [],pre,o,e=>by
  rw[rR,aq (bV e)]
  rfl
 | z :: ys,pre,o,e=>by
  have hg:S9 x (S6 (pre.length:Int)) 0=z:=by rw[e]; exact iW
  rw[rR,ay (bo e),fL e,hg,Hb (by omega),P1,aH e (by omega)]
  dsimp only
  have el:cS y (z :: ys) o=cS y ys (if z∈y then z else o):=rfl
  rw[el]
  by_cases hz:z∈y
  ·rw[P5 (by simp[hz]),P5 hz]
   exact vU hx hy ys _ _ (aI e)
  ·rw[P4 (by simp[hz]),P4 hz]
   exact vU hx hy ys _ _ (aI e)
omit h in
theorem vV {x y:List Int} (hx:x.length≤1000000) (hy:y.length≤1000000) : ∀(ys pre:List Int) (o:Int),x=pre++ys→lq o (pre.length:Int) x y=some ((cS y ys o,()),())
 | [],pre,o,e=>by
  rw[tU,aq (bV e)]
  rfl
 | z :: ys,pre,o,e=>by
  have hg:S9 x (S6 (pre.length:Int)) 0=z:=by rw[e]; exact iW
  rw[tU,ay (bo e)]
  simp only[fL e,hg]
  rw[sc (by omega),P1,aH e (by omega)]
  dsimp only
  have el:cS y (z :: ys) o=cS y ys (if z∈y then z else o):=rfl
  rw[el]
  by_cases hz:z∈y
  ·rw[P5 (by simp[hz]),P5 hz]
   exact vV hx hy ys _ _ (aI e)
  ·rw[P4 (by simp[hz]),P4 hz]
   exact vV hx hy ys _ _ (aI e)
theorem Nj {a b:Int} (ha:a∈cl d.2.1) (hb:b∈cl d.2.1):xG d a b=some ((cS (cE d.2.1 b) (cE d.2.1 a) 0,()),()):=by
 have h1:=kk h a
 have h2:=kk h b
 rw[F5,vS h hb,P1,vS h ha,P1]
 dsimp only
 exact vU (by omega) (by omega) _ [] 0 rfl
theorem Hc {a b:Int} (ha:a∈cl d.2.1) (hb:b∈cl d.2.1):wi d a b=some ((cS (cE d.2.1 b) (cE d.2.1 a) 0,()),()):=by
 have h1:=kk h a
 have h2:=kk h b
 rw[H3,m8 h ha,P1,m8 h hb,P1]
 dsimp only
 exact vV (by omega) (by omega) _ [] 0 rfl
end
section
variable {d:aV} (hz:vR d)
include hz
theorem Nk (a b:Int):HC d a b=some ((tI d a b,()),()):=by
 have hl:=hz.vl
 rw[ML,Cf hz,P1]
 unfold tI
 cases hk:fR d with
 | false=>simp
 | true =>
  have h:=cm.1 hk
  rw[P4 (by decide),iK hl,P1]
  dsimp only
  rw[dC]
  cases ha:cc d.2.1 a with
  | false=>simp
  | true =>
   rw[P4 (by decide),iK hl,P1]
   dsimp only
   rw[dC]
   cases hb:cc d.2.1 b with
   | false=>simp
   | true =>
    rw[P4 (by decide),Nj h (eG.1 ha) (eG.1 hb),P5 ⟨rfl,rfl,rfl⟩]
    rfl
theorem Nl (a b:Int):Lw d a b=some ((tI d a b,()),()):=by
 have hl:=hz.vl
 rw[MM,kJ hz,P1]
 unfold tI
 cases hk:fR d with
 | false=>simp
 | true =>
  have h:=cm.1 hk
  rw[P4 (by decide),f2 hl,P1]
  dsimp only
  rw[dC]
  cases ha:cc d.2.1 a with
  | false=>simp
  | true =>
   rw[P4 (by decide),f2 hl,P1]
   dsimp only
   rw[dC]
   cases hb:cc d.2.1 b with
   | false=>simp
   | true =>
    rw[P4 (by decide),Hc h (eG.1 ha) (eG.1 hb),P5 ⟨rfl,rfl,rfl⟩]
    rfl
end
theorem Nm {α β:Type} {pre ys:List α} {y:α} {k:Option β}:inb (pre++y :: ys) (pre.length:Int) k=k:=fL rfl
theorem Nn {α β:Type} {pre ys:List α} {y d:α} {f:α→α} {k:List α→β}:Dy d (pre++y :: ys) (pre.length:Int) f k=k (pre++f y :: ys):=by
 unfold Dy
 rw[iW,NJ]
theorem Pi {a b:P0}:(P2 a == P2 b)=decide (a=b):=kw
theorem Pj {a:P0}:(P2 a == P2 (⟨#[]⟩:P0))=decide (a=eS):=kw
section
variable {l:List aP} (hl:l.length≤360) (hsz : ∀ c∈l,c.2.2.1.size≤9223372036854775807)
include hl hsz
end
section
variable {s:List af} {l:List aP} (hs : ∀ c∈s,c.2.1.size≤9223372036854775807) (hsl:s.length≤1000000000) (hsz : ∀ c∈l,c.2.2.1.size≤9223372036854775807)
include hs hsl hsz
end
section
variable {ls:List (List af)} (hls:ls.length≤10)
include hls
end
section
variable {a b:List af} (ha:a.length≤2000000) (hb:b.length≤2000000)
include ha hb
end
noncomputable def Ol (a b:List af):List aP:=if bd a=true∧bd b=true then qi a b else []
section
variable {a b:List af} (ha:a.length≤2000000) (hb:b.length≤2000000) (hsa : ∀ c∈a,c.2.1.size≤9223372036854775807) (hsb : ∀ c∈b,c.2.1.size≤9223372036854775807)
include ha hb hsa hsb
omit hsa hsb in
theorem gr : ∀(l m pl pm:List af) (acc:List aP),a=pl++l→b=pm++m→acc.length+l.length+m.length≤100000000→aU a b (pl.length:Int) (pm.length:Int) acc=some ((acc++g5 l m,()),())
 | [],[],pl,pm,acc,h1,h2,hc=>by
  rw[jQ,aq (bV h1),aq (bV h2)]
  unfold g5
  simp
 | x :: l,[],pl,pm,acc,h1,h2,hc=>by
  rw[Q1] at hc
  have hk:((pm.length:Int) == (b.length:Int))=true:=by rw[h2]; simp
  have ih:=fun acc hc=>gr l [] (pl++[x]) pm acc (aI h1) h2 hc
  have hdf:g5 (x :: l) []=cC (x.1,x.2.1,eS,()) (g5 l []):=by conv=>lhs; unfold g5
  rw[jQ,ay (bo h1),P5 hk,bk h1,bk h1,Pj,aH h1 (by omega),bv (by simp only[P3]; omega),ih _ (by first | omega | (simp only[P6,P3,S4,Q1] at hc ⊢; omega)),ih _ (by first | omega | (simp only[P6,P3,S4,Q1] at hc ⊢; omega)),hdf]
  unfold cC
  by_cases e:x.2.1=eS <;> simp[e]
 | [],y :: m,pl,pm,acc,h1,h2,hc=>by
  rw[Q1] at hc
  have hi:((pl.length:Int) == (a.length:Int))=true:=by rw[h1]; simp
  have hk : ¬((pm.length:Int) == (b.length:Int))=true:=by
   have:=bo h2
   simp only[T7]
   omega
  have ih:=fun acc hc=>gr [] m pl (pm++[y]) acc h1 (aI h2) hc
  rw[jQ,aq (bV h1),ay (bo h2),P4 hk,aq (bV h1),P5 hi,bk h2,bk h2,aH h2 (by omega),bv (by simp only[P3]; omega),ih _ (by first | omega | (simp only[P6,P3,S4,Q1] at hc ⊢; omega)),ih _ (by first | omega | (simp only[P6,P3,S4,Q1] at hc ⊢; omega))]
  rw[show(P2 (⟨#[]⟩:P0) == P2 y.2.1)=decide (eS=y.2.1) from kw]
  have hdf:g5 [] (y :: m)=cC (y.1,eS,y.2.1,()) (g5 [] m):=by conv=>lhs; unfold g5
  rw[hdf]
  unfold cC
  by_cases e:eS=y.2.1 <;> simp[e]
 | x :: l,y :: m,pl,pm,acc,h1,h2,hc=>by
  rw[Q1,Q1] at hc
  have hi : ¬((pl.length:Int) == (a.length:Int))=true:=by
   have:=bo h1
   simp only[T7]
   omega
  have hk : ¬((pm.length:Int) == (b.length:Int))=true:=by
   have:=bo h2
   simp only[T7]
   omega
  have i1:=fun acc hc=>gr l (y :: m) (pl++[x]) pm acc (aI h1) h2 hc
  have i2:=fun acc hc=>gr (x :: l) m pl (pm++[y]) acc h1 (aI h2) hc
  have i3:=fun acc hc=>gr l m (pl++[x]) (pm++[y]) acc (aI h1) (aI h2) hc
  rw[jQ,ay (bo h1),P4 hk,ay (bo h1)]
  simp only[bk h1,bk h2,qO,P1]
  rw[P4 hi]
  have e0:(P2 (⟨#[]⟩:P0) == P2 y.2.1)=decide (eS=y.2.1):=kw
  have e1:(P2 x.2.1 == P2 (⟨#[]⟩:P0))=decide (x.2.1=eS):=kw
  have e2:(P2 x.2.1 == P2 y.2.1)=decide (x.2.1=y.2.1):=kw
  rw[e0,e1,e2,aH h1 (by omega),aH h2 (by omega)]
  rw[bv (by simp only[P3]; omega),bv (by simp only[P3]; omega),bv (by simp only[P3]; omega)]
  rw[i1 _ (by first | omega | (simp only[P6,P3,S4,Q1] at hc ⊢; omega)),i1 _ (by first | omega | (simp only[P6,P3,S4,Q1] at hc ⊢; omega)),i2 _ (by first | omega | (simp only[P6,P3,S4,Q1] at hc ⊢; omega)),i2 _ (by first | omega | (simp only[P6,P3,S4,Q1] at hc ⊢; omega)),i3 _ (by first | omega | (simp only[P6,P3,S4,Q1] at hc ⊢; omega)),i3 _ (by first | omega | (simp only[P6,P3,S4,Q1] at hc ⊢; omega))]
  have hdf:g5 (x :: l) (y :: m)=if bi x.1 y.1=true then cC (x.1,x.2.1,eS,()) (g5 l (y :: m)) else if bi y.1 x.1=true then cC (y.1,eS,y.2.1,()) (g5 (x :: l) m) else cC (x.1,x.2.1,y.2.1,()) (g5 l m):=by conv=>lhs; unfold g5
  rw[hdf]
  cases k1:bi x.1 y.1 with
  | true =>
   simp only[if_true]
   unfold cC
   by_cases e:x.2.1=eS <;> simp[e]
  | false =>
   simp only[P9,R0]
   cases k2:bi y.1 x.1 with
   | true =>
    simp only[if_true]
    unfold cC
    by_cases e:eS=y.2.1 <;> simp[e]
   | false =>
    simp only[P9,R0]
    unfold cC
    by_cases e:x.2.1=y.2.1 <;> simp[e]
termination_by l m=>l.length+m.length
theorem IU:AC a b=some ((Ol a b,()),()):=by
 rw[H4,d7 hsa (by omega),P1]
 dsimp only
 unfold Ol
 cases h1:bd a with
 | false=>simp
 | true =>
  rw[P4 (by decide),d7 hsb (by omega),P1]
  dsimp only
  cases h2:bd b with
  | false=>simp
  | true =>
   rw[P4 (by decide)]
   refine(gr ha hb a b [] [] [] rfl rfl (by simp only[S4]; omega)).trans ?_
   rw[Oe (qR h1) (qR h2)]
   simp
end
section
variable {o x y:List af} (ho:o.length≤2000000) (hx:x.length≤2000000) (hy:y.length≤2000000)
include ho hx hy
end
def tL (p:List af×List aw):List af×List aw×Bool:=if p.2=[] then(if p.1.length≤120 then(p.1,[],true) else([],[],false)) else([],p.2,false)
theorem Hd {o x y:List af} (h1:bd o=true) (h2:bd x=true) (h3:bd y=true):EU o x y=tL (jq o x y,r9 o x y):=P5 ⟨h1,h2,h3⟩
theorem Bd {o x y:List af} (h : ¬(bd o=true∧bd x=true∧bd y=true)):EU o x y=([],[],false):=P4 h
theorem Om (p:List af×List aw):(if decide ((p.2.length:Int) > 0)=true then(some ((([]:(List af)),p.2,false,()),(()))) else(if decide ((p.1.length:Int) > 120)=true then(some ((([]:(List af)),([]:(List aw)),false,()),(()))) else(some ((p.1,([]:(List aw)),true,()),(())))))=some (((tL p).1,(tL p).2.1,(tL p).2.2,()),()):=by
 obtain⟨a,b⟩:=p
 unfold tL
 cases b with
 | cons r b =>
  rw[ay (by simp only[Q1]; omega)]
  simp
 | nil =>
  rw[aq (by simp)]
  by_cases hn:a.length≤120
  ·rw[aq (by simp only; omega)]
   simp[hn]
  ·rw[ay (by simp only; omega)]
   simp[hn]
section
variable {o x y:List af} (ho:o.length≤2000000) (hx:x.length≤2000000) (hy:y.length≤2000000) (hso : ∀ c∈o,c.2.1.size≤9223372036854775807) (hsx : ∀ c∈x,c.2.1.size≤9223372036854775807) (hsy : ∀ c∈y,c.2.1.size≤9223372036854775807)
include ho hx hy hso hsx hsy
omit ho hy hso hsx hsy in
theorem vW {l:List aP} (hl:l.length≤2000000) : ∀(ys pre:List aP) (p:List af×List aw),l=pre++ys→p.1.length≤1000000+pre.length→p.1.length+ys.length≤1000000→p.2.length+ys.length≤1000000→jc x (pre.length:Int) p.1 p.2 l=some (((tL (ys.foldl (mC x) p)).1,(tL (ys.foldl (mC x) p)).2.1,(tL (ys.foldl (mC x) p)).2.2,()),())
 | [],pre,p,h,h1,h2,h3=>by
  rw[tV,aq (bV h)]
  exact Om p
 | c :: ys,pre,p,h,h1,h2,h3=>by
  rw[Q1] at h2 h3
  have hg:S9 l (S6 (pre.length:Int)) eW.dflt=c:=by rw[h]; exact iW
  have ih:=fun p h1 h2 h3=>vW hl ys (pre++[c]) p (aI h) h1 h2 h3
  rw[tV,ay (bo h)]
  simp only[fL h,hg]
  rw[L3 (by omega),P1]
  dsimp only
  simp only[Pi]
  rw[aH h (by omega),List.foldl_cons]
  have hm:mC x p c=if aC c.1 x=c.2.1 then(gP p.1 c.1 c.2.2.1,p.2) else if aC c.1 x=c.2.2.1 then p else(p.1,p.2++[c.1]):=rfl
  by_cases e1:aC c.1 x=c.2.1
  ·have hsl:=M6 p.1 c.1 c.2.2.1
   rw[R5 e1,P5 rfl,Cc (by omega),P1,hm,P5 e1]
   exact ih (gP p.1 c.1 c.2.2.1,p.2) (by simp only[P6,P3]; omega) (by simp only; omega) (by simp only; omega)
  ·rw[S3 e1,P4 (by decide),hm,P4 e1]
   by_cases e2:aC c.1 x=c.2.2.1
   ·rw[R5 e2,P4 (by decide),P5 e2]
    exact ih p (by simp only[P6,P3]; omega) (by omega) (by omega)
   ·rw[S3 e2,P5 (by rfl),P4 e2,bv (by simp only[P3]; omega)]
    exact ih (p.1,p.2++[c.1]) (by simp only[P6,P3]; omega) (by simp only; omega) (by simp only[P6,P3]; omega)
theorem IV:AD o x y=some (((EU o x y).1,(EU o x y).2.1,(EU o x y).2.2,()),()):=by
 rw[H5,d7 hso (by omega),P1]
 dsimp only
 cases h1:bd o with
 | false =>
  rw[Bd (by rw[h1]; exact fun h=>by cases h.1)]
  rfl
 | true =>
  rw[P4 (by decide),d7 hsx (by omega),P1]
  dsimp only
  cases h2:bd x with
  | false =>
   rw[Bd (by rw[h2]; exact fun h=>by cases h.2.1)]
   rfl
  | true =>
   rw[P4 (by decide),d7 hsy (by omega),P1]
   dsimp only
   cases h3:bd y with
   | false =>
    rw[Bd (by rw[h3]; exact fun h=>by cases h.2.2)]
    rfl
   | true =>
    have l1:=d9 h2
    have l2:=L9 h1 h3
    have hd:Ol o y=qi o y:=P5 ⟨h1,h3⟩
    rw[P4 (by decide),bv (by simp only[S4]; omega),IU ho hy hso hsy,P1,hd,Hd h1 h2 h3,←L8 (o:=o) (x:=x) (y:=y) (qR h2) (IQ h2)]
    exact vW (l:=qi o y) hx (by omega) (qi o y) [] (x,[]) rfl (by simp only; omega) (by simp only; omega) (by simp only[S4]; omega)
end
theorem ch.szd {d:aV} (h:ch d):vR d where
 vl:=by have:=h.vl; omega
 bl:=by have:=h.bl; omega
 ul:=fun v hv=>by have:=(h.up v hv).1; omega
 sl:=fun v hv=>by have:=d9 (h.sh v hv); omega
 ss:=fun v hv c hc=>T5 (pH (h.sh v hv) c hc) (by decide)
 bs:=fun b hb=>by
  have:=(h.br b hb).1
  unfold m7 at this
  rw[P8,P8,Q0,Q0] at this
  omega
theorem Ci {vs:List ak} (hl:vs.length≤1000000000) (hu : ∀ v∈vs,v.2.1.length≤1000000000∧v.2.2.1.length≤1000000000) {a c e:Int} {bs b2 b3:List an} {f:List ak} : ∀(ys pre acc:List ak),vs=pre++ys→acc.length≤pre.length→mz (pre.length:Int) a vs bs c e f b2 acc b3=some (((e,acc++ys,b3,()),()),())
 | [],pre,acc,h,hb=>by rw[rO,aq (bV h),T8]
 | y :: ys,pre,acc,h,hb=>by
  obtain⟨k1,k2⟩:=hu y (by rw[h]; simp)
  have hlen:vs.length=pre.length+(ys.length+1):=by rw[h]; simp
  rw[rO,ay (bo h),bk h,bv (by simp only[S4]; omega),bv (by simp only[S4]; omega),bv (by simp only[P3]; omega),aH h (by omega),X6,X6]
  have ih:=Ci hl hu (a:=a) (c:=c) (e:=e) (bs:=bs) (b2:=b2) (b3:=b3) (f:=f) ys (pre++[y]) (acc++[y]) (aI h) (by simp only[P6,P3]; omega)
  rw[V2] at ih
  exact ih
theorem pM {d:aV} (hz:vR d):j8 d=some ((d,()),()):=by
 have h1:=hz.vl
 have h2:=hz.bl
 rw[FV,bv (by simp only[S4]; omega),X6]
 exact Ci hz.vl (fun v hv=>⟨hz.ul v hv,hz.sl v hv⟩) d.2.1 [] [] rfl (Q6 _)
theorem Cj {n:P0} {a:Int} {vs:List ak} {bs:List an} (hl:bs.length≤1000000000) : ∀(ys pre:List an),bs=pre++ys→mA n (pre.length:Int) a vs bs=some ((bT ys n,()),())
 | [],pre,h=>by
  rw[rP,aq (bV h)]
  rfl
 | y :: ys,pre,h=>by
  rw[rP,ay (bo h),bk h,kw,aH h (by omega),Cj hl ys _ (aI h)]
  by_cases e:y.1=n
  ·rw[P5 (R5 e),bk h]
   simp[bT,e]
  ·rw[P4 (by simpa using e)]
   simp[bT,e]
theorem mh {d:aV} (hl:d.2.2.1.length≤1000000000) (n:P0):gF d n=some ((bT d.2.2.1 n,()),()):=by
 rw[FW]
 exact Cj hl d.2.2.1 [] rfl
theorem vX {n:P0} {x a c:Int} {vs vs2:List ak} {b2:List an} : ∀(ys pre:List an),pre.length+ys.length≤1000000000→fI n x (pre.length:Int) vs (pre++ys) a c vs2 b2=some (((a,vs,pre++gT ys n x,()),()),())
 | [],pre,hb=>by
  rw[mT,aq (bV rfl)]
  rfl
 | y :: ys,pre,hb=>by
  rw[Q1] at hb
  have hw : ∀ z:an,ci_ cj_ ((pre.length:Int)+1)=((pre++[z]).length:Int):=fun z=>by
   rw[wr (by omega) (by omega),P6]
   rfl
  rw[mT,ay (bo rfl)]
  simp only[Nm,iW,kw,Nn]
  by_cases e:y.1=n
  ·rw[P5 (R5 e),hw (y.1,x,())]
   have ih:=vX (n:=n) (x:=x) (a:=a) (c:=c) (vs:=vs) (vs2:=vs2) (b2:=b2) ys (pre++[(y.1,x,())]) (by simp only[P6,P3]; omega)
   rw[V2,V2] at ih
   refine Eq.trans ih ?_
   simp[gT,e]
  ·rw[P4 (by simpa using e),hw y]
   have ih:=vX (n:=n) (x:=x) (a:=a) (c:=c) (vs:=vs) (vs2:=vs2) (b2:=b2) ys (pre++[y]) (by simp only[P6,P3]; omega)
   rw[V2,V2] at ih
   refine Eq.trans ih ?_
   simp[gT,e]
theorem Fb {a x:Int} {n:P0} {vs:List ak} {bs:List an} (hb:bs.length≤1000000000):li a n x vs bs=some (((a,vs,gT bs n x,()),()),()):=by
 rw[zp]
 exact vX bs [] (by simpa using hb)
theorem Fc {d:aV} (hz:vR d) (hn:0≤d.1∧d.1≤1000000000) (n:P0) (us:List Int) {s:List af} (hs:s.length≤1000000000):sW d n us s=some ((if tJ d=true then(d,0,false,()) else(IT d n us s,d.1,true,())),()):=by
 have h1:=hz.vl
 rw[FX,pM hz,P1]
 unfold tJ
 by_cases e1:d.2.1.length=40
 ·rw[P5 (by simp[e1]),P5 (by simp[e1])]
 ·rw[P4 (by simp; omega)]
  by_cases e2:d.1=1000000000
  ·rw[P5 (by simp[e2]),P5 (by simp[e2])]
  ·rw[P4 (by simpa using e2),P4 (by simp[e1,e2]),bv (by simp only[S4]; omega),X6,bv (by simp only[P3]; omega),wr (by omega) (by omega),Fb hz.bl,P1]
   rfl
section
variable {d:aV} (h:ch d)
include h
theorem qk (x:Int):gx d x=some ((eH d.2.1 x,()),()):=by
 rw[D3,f2 h.szd.vl,P1]
 dsimp only
 rw[dC]
 cases hx:cc d.2.1 x with
 | false =>
  rw[P5 (by decide)]
  have:d.2.1.find? (fun v=>v.1 == x)=none:=by
   rw[List.find?_eq_none]
   intro v hv e
   unfold cc at hx
   rw[List.any_eq_false] at hx
   exact hx v hv e
  unfold eH
  rw[this]
 | true =>
  obtain⟨v,hv,e,hF⟩:=KK hx
  have hl:=d9 (h.sh v hv)
  rw[P4 (by decide),hF,bv (by simp only[S4]; omega),X6,←e,Nh h.vr hv]
theorem IW (n:P0):ry d n=some ((bT d.2.2.1 n,()),()):=by
 rw[H6,kJ h.szd,P1,cm.2 h]
 dsimp only
 rw[P4 (by decide),mh h.szd.bl,P1]
theorem CL (n:P0) {s:List af} (hl:s.length≤1000000) (hs : ∀ c∈s,c.2.1.size≤9223372036854775807):lj d n s=some (((G7 d n s).1,(G7 d n s).2.1,(G7 d n s).2.2,()),()):=by
 have hnx:=h.nx
 rw[Cy,kJ h.szd,P1,cm.2 h]
 dsimp only
 rw[P4 (by decide),mh h.szd.bl,P1]
 dsimp only
 unfold G7
 rw[P5 (cm.2 h)]
 have h0:=h.hd0 n
 cases h1:f0 d.2.2.1 n with
 | false =>
  rw[P5 (by rw[T7]; exact h0.2 h1),pM h.szd,P1]
  rfl
 | true =>
  rw[P4 (by rw[T7,h0,h1]; decide),d7 hs (by omega),P1,P5 rfl]
  dsimp only
  cases h2:bd s with
  | false =>
   rw[P5 (by decide),pM h.szd,P1]
   rfl
  | true =>
   rw[P4 (by decide),P5 rfl,Fc h.szd (by omega) n _ (by omega),P1]
   dsimp only
   by_cases h3:tJ d=true
   ·rw[P5 h3,P5 h3]
    rfl
   ·rw[P4 h3,P4 h3]
    rfl
end
theorem Oo (a b:P0):(!(Op.bytesLess b.toList a.toList || (b.toList == a.toList)))=gq a b:=by
 rw[kw]
 show(!(gq b a || decide (b=a)))=gq a b
 by_cases e:b=a
 ·rw[R5 e,e,G5]
  rfl
 ·rw[S3 e,Bool.or_false]
  cases hb:gq b a with
  | false =>
   rw[G8 hb fun k=>e k.symm]
   rfl
  | true =>
   cases ha:gq a b with
   | false=>rfl
   | true =>
    have:=vO ha hb
    rw[G5] at this
    cases this
section
variable {n:P0} {x a c e:Int} {vs vs2 vs3:List ak} {bs b2 b3:List an} (hl:bs.length≤1000000000)
include hl
theorem He : ∀(ys pre acc:List an),bs=pre++ys→acc.length≤pre.length+1→dG n x true (pre.length:Int) a vs bs c e acc vs2 b2 vs3 b3=some (((e,vs3,acc++ys,()),0,()),())
 | [],pre,acc,h,hb=>by
  rw[gK,aq (bV h),T8]
  rfl
 | y :: ys,pre,acc,h,hb=>by
  have hlen:bs.length=pre.length+(ys.length+1):=by rw[h]; simp
  rw[gK,ay (bo h),P4 (by decide),bk h,bv (by simp only[P3]; omega),aH h (by omega),He ys _ _ (aI h) (by simp only[P6,P3]; omega),V2]
  rfl
theorem Fd : ∀(ys pre acc:List an),bs=pre++ys→acc.length≤pre.length→dG n x false (pre.length:Int) a vs bs c e acc vs2 b2 vs3 b3=some (((e,vs3,acc++mg n x ys,()),0,()),())
 | [],pre,acc,h,hb=>by
  have hlen:bs.length=pre.length:=by rw[h]; simp
  rw[gK,aq (bV h),P5 (by decide),bv (by simp only[P3]; omega)]
  rfl
 | y :: ys,pre,acc,h,hb=>by
  have hlen:bs.length=pre.length+(ys.length+1):=by rw[h]; simp
  rw[gK,ay (bo h),P5 (by decide),bk h,Oo]
  unfold mg
  by_cases hk:gq n y.1=true
  ·rw[P5 hk,P5 hk,bv (by simp only[P3]; omega),bk h,bv (by simp only[P6,P3]; omega),aH h (by omega),He hl ys _ _ (aI h) (by simp only[P6,P3]; omega)]
   simp
  ·rw[P4 hk,P4 hk,bk h,bv (by simp only[P3]; omega),aH h (by omega),Fd ys _ _ (aI h) (by simp only[P6,P3]; omega)]
   simp
end
section
variable {d:aV} (h:ch d)
include h
theorem Fe {n:P0} (hn:n.size≤9223372036854775807) (x:Int):mO d n x=some (((KG d n x).1,(KG d n x).2,()),()):=by
 have hvl:=h.vl
 have hbl:=h.bl
 rw[D1,kJ h.szd,P1,cm.2 h]
 dsimp only
 rw[P4 (by decide),pM h.szd,P1,yl hn,P1]
 dsimp only
 unfold KG
 rw[P5 (cm.2 h)]
 cases h1:m7 n with
 | false =>
  rw[P5 (by decide),P5 (.inl rfl)]
 | true =>
  rw[P4 (by decide),mh h.szd.bl,P1]
  dsimp only
  have h0:=h.hd0 n
  cases h2:f0 d.2.2.1 n with
  | true =>
   rw[P5 (by rw[bne_iff_ne,Ne,h0,h2]; decide),P5 (.inr rfl)]
  | false =>
   rw[P4 (by rw[bne_iff_ne,Ne,Classical.not_not]; exact h0.2 h2),f2 h.szd.vl,P1,P4 (show ¬(true=false∨false=true) by simp)]
   dsimp only
   rw[dC]
   cases h3:cc d.2.1 x with
   | false =>
    rw[P5 (by decide),P5 rfl]
   | true =>
    rw[P4 (by decide),P4 (show ¬true=false by decide)]
    by_cases h4:d.2.2.1.length=8
    ·rw[P5 (by simp[h4]),P5 h4]
    ·rw[P4 (by simp; omega),P4 h4,show dG n x false 0 d.1 d.2.1 d.2.2.1 0 d.1 [] [] [] d.2.1 d.2.2.1=_ from Fd (by omega) d.2.2.1 [] [] rfl (Q6 _)]
     rfl
theorem Ff (m n:P0):pZ d m n=some (((G9 d m n).1,(G9 d m n).2.1,(G9 d m n).2.2,()),()):=by
 have hvl:=h.vl
 have hbl:=h.bl
 have hnx:=h.nx
 rw[D4,kJ h.szd,P1,cm.2 h]
 dsimp only
 rw[P4 (by decide),pM h.szd,P1,mh h.szd.bl,P1,mh h.szd.bl,P1]
 dsimp only
 unfold G9
 rw[P5 (cm.2 h)]
 have h0:=h.hd0 m
 have h0':=h.hd0 n
 cases h1:f0 d.2.2.1 m with
 | false =>
  rw[P5 (by rw[T7]; exact h0.2 h1),P4 (fun k=>by cases k.1)]
 | true =>
  rw[P4 (by rw[T7,h0,h1]; decide)]
  cases h2:f0 d.2.2.1 n with
  | false =>
   rw[P5 (by rw[T7]; exact h0'.2 h2),P4 (fun k=>by cases k.2)]
  | true =>
   rw[P4 (by rw[T7,h0',h2]; decide),P5 (show true=true∧true=true from⟨rfl,rfl⟩)]
   have ha:=(h.head h1).1
   have hb:=(h.head h2).1
   have la:=kk h (bT d.2.2.1 m)
   have lb:=kk h (bT d.2.2.1 n)
   rw[m8 h ha,P1]
   dsimp only
   rw[sc (by omega),P1]
   dsimp only
   by_cases h3:bT d.2.2.1 n∈cE d.2.1 (bT d.2.2.1 m)
   ·rw[P5 (R5 h3),P5 h3]
   ·rw[P4 (by simpa using h3),P4 h3,m8 h hb,P1]
    dsimp only
    rw[sc (by omega),P1]
    dsimp only
    by_cases h4:bT d.2.2.1 m∈cE d.2.1 (bT d.2.2.1 n)
    ·rw[P5 (R5 h4),P5 h4,Fb h.szd.bl,P1]
    ·rw[P4 (by simpa using h4),P4 h4,Hc h ha hb,P1,qk h,P1,qk h,P1,qk h,P1]
     dsimp only
     have ho:=h.sheet (cS (cE d.2.1 (bT d.2.2.1 n)) (cE d.2.1 (bT d.2.2.1 m)) 0)
     have hx:=h.sheet (bT d.2.2.1 m)
     have hy:=h.sheet (bT d.2.2.1 n)
     generalize eH d.2.1 (cS (cE d.2.1 (bT d.2.2.1 n)) (cE d.2.1 (bT d.2.2.1 m)) 0)=o at *
     generalize eH d.2.1 (bT d.2.2.1 m)=u at *
     generalize eH d.2.1 (bT d.2.2.1 n)=v at *
     have k1:=d9 ho
     have k2:=d9 hx
     have k3:=d9 hy
     have s1 : ∀ {t:List af},bd t=true → ∀ c∈t,c.2.1.size≤9223372036854775807:=fun ht c hc=>T5 (pH ht c hc) (by decide)
     rw[IV (by omega) (by omega) (by omega) (s1 ho) (s1 hx) (s1 hy),P1,Hd ho hx hy]
     unfold tL
     dsimp only
     by_cases h5:r9 o u v=[]
     ·rw[P5 h5,P4 (show ¬r9 o u v≠[] from fun k=>k h5)]
      by_cases h6:(jq o u v).length≤120
      ·rw[P5 h6,P4 (show ¬120 < (jq o u v).length by omega)]
       dsimp only
       rw[aq (by simp),P4 (by decide),Fc h.szd (by omega) m _ (by omega),P1]
       dsimp only
       have emin:(if bT d.2.2.1 n < bT d.2.2.1 m then bT d.2.2.1 n else bT d.2.2.1 m)=min (bT d.2.2.1 m) (bT d.2.2.1 n):=by
        rw[Int.min_def]
        split <;> split <;> omega
       have emax:(if bT d.2.2.1 m < bT d.2.2.1 n then bT d.2.2.1 n else bT d.2.2.1 m)=max (bT d.2.2.1 m) (bT d.2.2.1 n):=by
        rw[Int.max_def]
        split <;> split <;> omega
       rw[emin,emax]
       by_cases h7:tJ d=true
       ·rw[P5 h7,P5 h7]
        rfl
       ·rw[P4 h7,P4 h7]
        rfl
      ·rw[P4 h6,P5 (show 120 < (jq o u v).length by omega)]
       dsimp only
       rw[aq (by simp),P5 (by decide)]
     ·rw[P4 h5,P5 (show r9 o u v≠[] from h5)]
      dsimp only
      rw[ay (by have:=List.length_pos_iff.2 h5; omega)]
end
def Ok {α:Type} (P:α→Prop) (o:Option α):Prop := ∃ a,o=some a∧P a
theorem Ok.one {α:Type} {P:α→Prop} {a:α} (h:P a):Ok P (some a):=⟨a,rfl,h⟩
theorem Ok.bnd {α β:Type} {P:α→Prop} {Q:β→Prop} {o:Option α} {f:α→Option β} (h:Ok P o) (k : ∀ a,P a→Ok Q (f a)):Ok Q (o.bind f):=by
 obtain⟨a,e,p⟩:=h
 rw[e]
 exact k a p
theorem Ok.ite {α:Type} {c:Prop} [Decidable c] {Q:α→Prop} {a b:Option α} (h:c→Ok Q a) (k : ¬c→Ok Q b):Ok Q (if c then a else b):=by
 by_cases e:c
 ·rw[P5 e]; exact h e
 ·rw[P4 e]; exact k e
theorem Ok.inb {α β:Type} {Q:β→Prop} {xs:List α} {i:Int} {k:Option β} (h:0≤i∧i < (xs.length:Int)) (hk:Ok Q k):Ok Q (inb xs i k):=by
 rw[iE h.1 h.2]; exact hk
theorem Ok.cats {β:Type} {Q:β→Prop} {a b:P0} {f:P0→Option β} (h:a.size+b.size≤9223372036854775807) (hk:Ok Q (f (a++b))):Ok Q (cats a b f):=by
 rw[kC h]; exact hk
theorem Ok.nz {β:Type} {Q:β→Prop} {b:Int} {k:Option β} (h:b≠0) (hk:Ok Q k):Ok Q (nz b k):=by
 rw[OL h]; exact hk
theorem Ok.app {α β:Type} {Q:β→Prop} {a b:List α} {n:Nat} {f:List α→Option β} (h:(a.length+b.length)*n≤140737488355328) (hk:Ok Q (f (a++b))):Ok Q (app a b n f):=by
 rw[bv h]; exact hk
theorem Ok.mono {α:Type} {P Q:α→Prop} {o:Option α} (h:Ok P o) (k : ∀ a,P a→Q a):Ok Q o:=by
 obtain⟨a,e,p⟩:=h
 exact⟨a,e,k a p⟩
theorem OW {α β:Type} {xs:List α} {i:Int} {d:α} {f:α→Option β} (h0:0≤i) (h1:i < (xs.length:Int)):ix xs i d f=f (xs.getD i.toNat d):=by
 have hl:i.toNat < xs.length:=by omega
 rw[cX h0 (Q7 hl),S7,Q7 hl]
 rfl
theorem KL {l:List P0} {n:Nat} (h : ∀ x∈l,x.size≤n) (i:Nat) (d:P0) (hd:d.size≤n):(l.getD i d).size≤n:=by
 rw[S7]
 by_cases e:i < l.length
 ·rw[Q7 e]; exact h _ (Z8 e)
 ·rw[W0 (by omega)]; exact hd
structure Fg (c:List Int):Prop where
 len:c.length≤1048576
 all : ∀ b∈c,0≤b∧b≤255
def Rd (c:List Int) (s:aZ):Prop:=s.1=c∧0≤s.2.1∧s.2.1≤(c.length:Int)
section
variable {c:List Int} (hc:Fg c)
include hc
theorem oi {s:aZ} (h:Rd c s):Ok (fun z=>(0≤z.1.1∧z.1.1≤255)∧Rd c z.2.1) (fW s):=by
 obtain⟨x,i,u⟩:=s
 obtain⟨h1,h2,h3⟩:=h
 simp only at h1 h2 h3
 subst h1
 have hl:=hc.len
 rw[rF]
 show Ok _ (if decide (i≥(x.length:Int))=true then some ((0,()),((x,i,u),())) else ix x (ci_ cj_ ((ci_ cj_ (i+1)) - 1)) 0 fun y1=>(some (((ci_ cj_ y1),()),((x,(ci_ cj_ (i+1)),()),()))))
 refine Ok.ite (fun _=>Ok.one ⟨⟨W4 _,by show(0:Int)≤255; decide⟩,rfl,h2,h3⟩) fun e => ?_
 have e':i < (x.length:Int):=by simp only[Q0] at e; omega
 rw[wr (n:=i+1) (by omega) (by omega),wr (n:=i+1 - 1) (by omega) (by omega),show i+1 - 1=i by omega,OW h2 e']
 have hb:0≤x.getD i.toNat 0∧x.getD i.toNat 0≤255:=by
  rw[S7,Q7 (by omega)]
  exact hc.all _ (Z8 _)
 rw[wr (by omega) (by omega)]
 exact Ok.one ⟨hb,rfl,by show(0:Int)≤i+1; omega,by show i+1≤(x.length:Int); omega⟩
theorem mi {n:Int} {s:aZ} (h:Rd c s) (hn:1≤n):Ok (fun z=>(0≤z.1.1∧z.1.1 < n)∧Rd c z.2.1) (bF n s):=by
 rw[zl]
 refine Ok.ite (fun _=>Ok.one ⟨⟨W4 _,by show(0:Int) < n; omega⟩,h⟩) fun _=>Ok.ite (fun _ => ?_) fun _ => ?_
 ·refine Ok.bnd (oi hc h) fun z hz=>Ok.nz (by omega) (Ok.one ⟨⟨Int.tmod_nonneg _ hz.1.1,cf_ _ (by omega)⟩,hz.2⟩)
 ·refine Ok.bnd (oi hc h) fun z hz=>Ok.bnd (oi hc hz.2) fun y hy => ?_
  have h1:=hz.1
  have h2:=hy.1
  rw[wr (n:=z.1.1*256) (by omega) (by omega),wr (by omega) (by omega)]
  exact Ok.nz (by omega) (Ok.one ⟨⟨Int.tmod_nonneg _ (by omega),cf_ _ (by omega)⟩,hy.2⟩)
theorem Oq {s:aZ} (h:Rd c s):Ok (fun z=>bQ z.1.1=true∧Rd c z.2.1) (mP s):=by
 rw[D5]
 refine Ok.bnd (mi hc h (by decide)) fun z hz=>Ok.bnd (mi hc hz.2 (by decide)) fun y hy => ?_
 have h1:=hz.1
 have h2:=hy.1
 rw[wr (by omega) (by omega),wr (by omega) (by omega)]
 refine Ok.one ⟨?_,hy.2⟩
 rw[mZ]
 show(1≤1+z.1.1∧1+z.1.1≤52)∧1≤1+y.1.1∧1+y.1.1≤99
 omega
theorem No {n:Int} {s:aZ} (h:Rd c s) (hn:1≤n):Ok (fun z=>Rd c z.2.1) (sX n s):=by
 rw[Cz]
 exact Ok.bnd (mi hc h hn) fun z hz=>Ok.one hz.2
theorem Fh : ∀(n:Nat) (x0:Int) (s:aZ),n≤8→Rd c s→Ok (fun z=>Rd c z.2.1) (jO x0 (8 - (n:Int)) s)
 | 0,x0,s,_,h=>by
  rw[pn,aq (by omega)]
  exact Ok.one h
 | n+1,x0,s,hn,h=>by
  rw[pn,ay (by omega)]
  refine Ok.bnd (oi hc h) fun z hz => ?_
  rw[wr (by omega) (by omega),show 8 - ((n+1:Nat):Int)+1=8 - (n:Int) by omega]
  exact Fh n _ _ (by omega) hz.2
theorem Np {s:aZ} (h:Rd c s):Ok (fun z=>Rd c z.2.1) (sY s):=by
 rw[CA]
 exact Fh hc 8 0 s (Q6 _) h
theorem Nq {a b:Int} {s:aZ} (h:Rd c s) (hab:0≤a∧a≤b∧b≤1000000):Ok (fun z=>Rd c z.2.1) (sZ a b s):=by
 rw[CB]
 refine Ok.bnd (mi hc h (by decide)) fun z hz=>Ok.ite (fun _=>Ok.one hz.2) fun _=>Ok.ite (fun _=>Ok.one hz.2) fun _=>Ok.ite (fun _=>Ok.one hz.2) fun _=>Ok.bnd (Np hc hz.2) fun y hy => ?_
 refine Ok.nz ?_ (Ok.one hy)
 rw[wr (n:=b - a) (by omega) (by omega),wr (n:=b - a+1) (by omega) (by omega)]
 have:IntKind.u64.wrap (b - a+1)=b - a+1:=by
  show(b - a+1) % 18446744073709551616=_
  omega
 rw[this]
 omega
theorem Ot {a b:Int} {s:aZ} (h:Rd c s) (hab:0≤a∧a≤b∧b≤1000000):Ok (fun z=>Rd c z.2.1) (kz a b s):=by
 rw[D6]
 refine Ok.bnd (No hc h (by decide)) fun z hz=>Ok.ite (fun _ => ?_) fun _ => ?_
 ·exact Ok.bnd (mi hc hz (by decide)) fun y hy=>Ok.inb hy.1 (Ok.one hy.2)
 ·exact Ok.bnd (Nq hc hz hab) fun y hy=>Ok.one hy
end
theorem Ok.inbL {β:Type} {Q:β→Prop} {l:List P0} {i n:Int} {k:Option β} (d:P0) (h0:0≤i) (h1:i < n) (hl:n=(l.length:Int)) (hs : ∀ x∈l,x.size≤20) (hd:d.size≤20) (hk:(l.getD i.toNat d).size≤20→Ok Q k):Ok Q (Abs.inb l i k) :=
 Ok.inb ⟨h0,by omega⟩ (hk (KL hs _ _ hd))
section
variable {c:List Int} (hc:Fg c) {β:Type} {Q:β→Prop} {s:aZ}
include hc
theorem gt {n:Int} {f:(Int×Unit)×aZ×Unit→Option β} (h:Rd c s) (hn:1≤n) (k : ∀ z,0≤z.1.1→z.1.1 < n→Rd c z.2.1→Ok Q (f z)):Ok Q ((bF n s).bind f):=Ok.bnd (mi hc h hn) fun z hz=>k z hz.1.1 hz.1.2 hz.2
theorem Mu {f:(aw×Unit)×aZ×Unit→Option β} (h:Rd c s) (k : ∀ z,bQ z.1.1=true→Rd c z.2.1→Ok Q (f z)):Ok Q ((mP s).bind f):=Ok.bnd (Oq hc h) fun z hz=>k z hz.1 hz.2
end
theorem Nr (c:List Int):Lv c=some ((decide (1048576 < (c.length:Int)),()),()):=by rw[MK]
theorem Ou {x:List Int} (h:x.length≤maxLen ∧ ∀ b∈x,uH (.int .u8) b) (hl : ¬1048576 < (x.length:Int)):Fg x:=by
 refine⟨by omega,fun b hb => ?_⟩
 have:(decide (IntKind.u8.min≤b) && decide (b≤IntKind.u8.max))=true:=h.2 b hb
 simp only[P8,Q0] at this
 have e1:IntKind.u8.min=0:=rfl
 have e2:IntKind.u8.max=255:=rfl
 omega
section
variable {c:List Int} (hc:Fg c)
include hc
end
noncomputable def KM (s:List af) (r:aw) (x:P0):List af×Bool :=
 if bd s=true∧bQ r=true∧(ft x).2=true∧(gP s r (ft x).1).length≤120 then(gP s r (ft x).1,true) else([],false)
theorem KN {s:List af} {r:aw} {x:P0} (hl:s.length≤1000000) (hs : ∀ c∈s,c.2.1.size≤9223372036854775807) (hx:x.size≤9223372036854775807):u5 s r x=some (((KM s r x).1,(KM s r x).2,()),()):=by
 rw[JW,(Ae hx).2.1,d7 hs (by omega),kE]
 simp only[P1]
 unfold KM
 cases h1:bd s with
 | false=>simp
 | true =>
  cases h2:bQ r with
  | false=>simp
  | true =>
   cases h3:(ft x).2 with
   | false=>simp
   | true =>
    rw[Cc hl]
    simp only[P1,Bool.not_true,P9,R0]
    by_cases h4:(gP s r (ft x).1).length≤120
    ·rw[aq (by omega),P5 (by simp[h4])]
    ·rw[ay (by omega),P4 (by simp[h4])]
def ql (s:List af):Prop:=s.length≤121 ∧ ∀ c∈s,c.2.1.size≤6401
theorem ql.sz {s:List af} (h:ql s) : ∀ c∈s,c.2.1.size≤9223372036854775807:=fun c hc=>T5 (h.2 c hc) (by decide)
def Fi (s:List af):Prop:=s.length≤120 ∧ ∀ c∈s,c.2.1.size≤6401
theorem Fi.up {s:List af} (h:Fi s):ql s:=⟨by have:=h.1; omega,h.2⟩
theorem Me {s:List af} {r:aw} {x:P0} {n:Nat} (hs : ∀ c∈s,c.2.1.size≤n) (hx:x.size≤n) : ∀ c∈gP s r x,c.2.1.size≤n:=by
 intro c hc
 rcases oe.1 hc with h | ⟨_,rfl⟩
 ·exact hs c h.1
 ·exact hx
theorem KO {s:List af} {r:aw} {x:P0} (h : ∀ c∈s,c.2.1.size≤6401):Fi (KM s r x).1:=by
 unfold KM
 split
 ·rename_i k
  exact⟨k.2.2.2,Me h (T5 (B9 x) (by decide))⟩
 ·exact⟨Y6 _,fun c hc=>by cases hc⟩
theorem Hf {β:Type} {Q:β→Prop} {s:List af} {r:aw} {x:P0} {f:((List af)×Bool×Unit)×Unit→Option β} (h:ql s) (hx:x.size≤6401) (k : ∀ z,Fi z.1.1→Ok Q (f z)):Ok Q ((u5 s r x).bind f) :=
 Ok.bnd (P:=fun z=>Fi z.1.1) ⟨_,KN (by have:=h.1; omega) h.sz (by omega),KO h.2⟩ k
section
variable {c:List Int} (hc:Fg c)
include hc
theorem ym : ∀(n:Nat) {s:aZ} {a:List af},n≤1000→Rd c s→ql a→Ok (fun z=>ql z.1.1∧Rd c z.2.1) (gj (n:Int) s a)
 | 0,s,a,_,h,ho=>by
  rw[nG,aq (by decide)]
  exact Ok.one ⟨ho,h⟩
 | n+1,s,a,hn,h,ho=>by
  have hw:IntKind.i64.wrap (((n+1:Nat):Int) - 1)=(n:Int):=by rw[wr (by omega) (by omega)]; omega
  rw[nG,ay (by omega),hw]
  refine Mu hc h fun y _ hy=>gt hc hy (by decide) fun x h0 h1 hx=>Ok.inbL ⟨#[]⟩ h0 h1 (by decide) (by decide) (by decide) fun hk => ?_
  refine Hf ho (T5 hk (by decide)) fun w hw=>Ok.ite (fun _ => ?_) fun _ => ?_
  ·exact ym n (by omega) hx hw.up
  ·exact ym n (by omega) hx ho
theorem Ck : ∀(n:Nat) {s:aZ} {a:List af},n≤1000→Rd c s→ql a→Ok (fun z=>ql z.1.1∧Rd c z.2.1) (jN a (n:Int) s)
 | 0,s,a,_,h,ho=>by
  rw[pk,aq (by decide)]
  exact Ok.one ⟨ho,h⟩
 | n+1,s,a,hn,h,ho=>by
  have hw:IntKind.i64.wrap (((n+1:Nat):Int) - 1)=(n:Int):=by rw[wr (by omega) (by omega)]; omega
  rw[pk,ay (by omega),hw]
  refine Mu hc h fun y _ hy=>gt hc hy (by decide) fun x h0 h1 hx=>Ok.inbL ⟨#[]⟩ h0 h1 (by decide) (by decide) (by decide) fun hk => ?_
  refine Hf ho (T5 hk (by decide)) fun w hw=>Ok.ite (fun _ => ?_) fun _ => ?_
  ·exact ym hc n (by omega) hx hw.up
  ·exact Ck n (by omega) hx ho
end
section
variable {c:List Int} (hc:Fg c)
include hc
theorem Fj {i:Int} (h2:0≤i) (h3:i≤(c.length:Int)):Ok (fun z=>(0≤z.1.1∧z.1.1≤255)∧Rd c z.2.1) (nN c i):=by
 have:=oi hc (s:=(c,i,())) ⟨rfl,h2,h3⟩
 rw[rF] at this
 rw[Co]
 exact this
theorem KP {n i:Int} (h2:0≤i) (h3:i≤(c.length:Int)) (hn:1≤n):Ok (fun z=>(0≤z.1.1∧z.1.1 < n)∧Rd c z.2.1) (qz n c i):=by
 rw[AJ]
 refine Ok.ite (fun _=>Ok.one ⟨⟨W4 _,by show(0:Int) < n; omega⟩,rfl,h2,h3⟩) fun _=>Ok.ite (fun _ => ?_) fun _ => ?_
 ·refine Ok.bnd (Fj hc h2 h3) fun z hz=>Ok.nz (by omega) (Ok.one ⟨⟨Int.tmod_nonneg _ hz.1.1,cf_ _ (by omega)⟩,hz.2⟩)
 ·refine Ok.bnd (Fj hc h2 h3) fun z hz=>Ok.bnd (oi hc hz.2) fun y hy => ?_
  have h1:=hz.1
  have h2:=hy.1
  rw[wr (n:=z.1.1*256) (by omega) (by omega),wr (by omega) (by omega)]
  exact Ok.nz (by omega) (Ok.one ⟨⟨Int.tmod_nonneg _ (by omega),cf_ _ (by omega)⟩,hy.2⟩)
theorem KQ {β:Type} {Q:β→Prop} {s:aZ} {a:List af} {n:Int} {f:(List af×Unit)×aZ×Unit→Option β} (h:Rd c s) (ha:ql a) (h0:0≤n) (h1:n≤900) (k : ∀ z,ql z.1.1→Rd c z.2.1→Ok Q (f z)):Ok Q ((nR a n s).bind f):=by
 refine Ok.bnd (P:=fun z=>ql z.1.1∧Rd c z.2.1) ?_ fun z hz=>k z hz.1 hz.2
 rw[Cx,wr (by omega) (by omega)]
 refine gt hc h (by omega) fun z z0 z1 hz => ?_
 obtain⟨m,hm⟩ : ∃ m:Nat,z.1.1=(m:Int):=⟨z.1.1.toNat,by omega⟩
 rw[hm]
 exact Ck hc m (by omega) hz ha
end
def KR (l:List aP):Prop:=l.length≤240 ∧ ∀ c∈l,c.2.2.1.size≤6401
theorem KR.set {l:List aP} (h:KR l) {i:Nat} {x:aP} (hx:x.2.2.1.size≤6401):KR (l.set i x):=by
 refine⟨by rw[ag_]; exact h.1,fun c hc => ?_⟩
 rcases List.mem_or_eq_of_mem_set hc with k | rfl
 ·exact h.2 c k
 ·exact hx
theorem KR.at {l:List aP} (h:KR l) {i:Nat}:(l.getD i (eW.dflt)).2.2.1.size≤6401:=by
 rw[S7]
 by_cases e:i < l.length
 ·rw[Q7 e]; exact h.2 _ (Z8 e)
 ·rw[W0 (by omega)]; decide
theorem Ov {β:Type} {Q:β→Prop} {d:aV} (h:ch d) {n:P0} (hn:n.size≤20) (x:Int) {f:_→Option β} (k : ∀ z:(aV×Int×Unit)×Unit,ch z.1.1→Ok Q (f z)):Ok Q ((mO d n x).bind f):=Ok.bnd (P:=fun z=>ch z.1.1) ⟨_,Fe h (by omega) x,Oh h n x⟩ k
theorem Pe {β:Type} {Q:β→Prop} {d:aV} (h:ch d) (m n:P0) {f:_→Option β} (k : ∀ z:(aV×List aw×Int×Unit)×Unit,ch z.1.1→Ok Q (f z)):Ok Q ((pZ d m n).bind f):=Ok.bnd (P:=fun z=>ch z.1.1) ⟨_,Ff h m n,Oi h m n⟩ k
theorem Ow {β:Type} {Q:β→Prop} {d:aV} (h:ch d) (n:P0) {s:List af} (hs:ql s) {f:_→Option β} (k : ∀ z:(aV×Int×Int×Unit)×Unit,ch z.1.1→Ok Q (f z)):Ok Q ((lj d n s).bind f):=Ok.bnd (P:=fun z=>ch z.1.1) ⟨_,CL h n (by have:=hs.1; omega) hs.sz,Og h n s⟩ k
theorem Ox {β:Type} {Q:β→Prop} {d:aV} (h:ch d) (n:P0) {f:_→Option β} (k : ∀ z:(Int×Unit)×Unit,Ok Q (f z)):Ok Q ((ry d n).bind f):=Ok.bnd (P:=fun _=>True) ⟨_,IW h n,trivial⟩ fun z _=>k z
theorem OX {β:Type} {Q:β→Prop} {d:aV} (h:ch d) (n:P0) {f:_→Option β} (k : ∀ z:(Int×Unit)×Unit,Ok Q (f z)):Ok Q ((gF d n).bind f):=Ok.bnd (P:=fun _=>True) ⟨_,mh h.szd.bl n,trivial⟩ fun z _=>k z
theorem Oy {β:Type} {Q:β→Prop} {d:aV} (h:ch d) (x:Int) {f:_→Option β} (k : ∀ z:(List af×Unit)×Unit,ql z.1.1→Ok Q (f z)):Ok Q ((gx d x).bind f):=Ok.bnd (P:=fun z=>ql z.1.1) ⟨_,qk h x,by
 have hs:=h.sheet x
 exact⟨by have:=d9 hs; show(eH d.2.1 x).length≤121; omega,fun c hc=>T5 (pH hs c hc) (by decide)⟩⟩ k
def Oz:aV:=(2,[(1,[],[],())],[((⟨#[109,97,105,110]⟩:P0),1,())],())
theorem Ns:ch Oz:=by
 have hsh:bd ([]:List af)=true:=d8.2 ⟨ab_,(fun c hc=>by cases hc),Y6 _⟩
 refine⟨by decide,by decide,by decide,fun v hv => ?_,fun v hv => ?_,fun v hv => ?_,Y7 _ _,fun b hb => ?_,Y7 _ _⟩
 ·rw[R7.1 hv]
  decide
 ·rw[R7.1 hv]
  exact⟨Y6 _,(fun u hu=>by cases hu),ab_⟩
 ·rw[R7.1 hv]
  exact hsh
 ·rw[R7.1 hb]
  exact⟨by decide +kernel,by decide⟩
theorem OA {d:aV} (h:vR d) {i:Int} (h0:0≤i) (h1:i < (d.2.1.length:Int)) (x:Int):vR (d.1,d.2.1.set i.toNat (x,(d.2.1.getD i.toNat ar.dflt).2.1,(d.2.1.getD i.toNat ar.dflt).2.2.1,()),d.2.2.1,()):=by
 have hl:i.toNat < d.2.1.length:=by omega
 have he:d.2.1.getD i.toNat ar.dflt∈d.2.1:=by
  rw[S7,Q7 hl]
  exact Z8 hl
 generalize d.2.1.getD i.toNat ar.dflt=e at *
 have hm : ∀ v∈d.2.1.set i.toNat (x,e.2.1,e.2.2.1,()),v∈d.2.1∨v=(x,e.2.1,e.2.2.1,()):=fun v hv=>List.mem_or_eq_of_mem_set hv
 refine⟨by show(d.2.1.set _ _).length≤_; rw[ag_]; exact h.vl,h.bl,fun v hv => ?_,fun v hv => ?_,fun v hv => ?_,h.bs⟩
 ·rcases hm v hv with hv | rfl
  ·exact h.ul v hv
  ·exact h.ul e he
 ·rcases hm v hv with hv | rfl
  ·exact h.sl v hv
  ·exact h.sl e he
 ·rcases hm v hv with hv | rfl
  ·exact h.ss v hv
  ·exact h.ss e he
section
variable {c:List Int} (hc:Fg c)
include hc
theorem Fk {β:Type} {Q:β→Prop} {a b:Int} {s:aZ} {f:(Int×Unit)×aZ×Unit→Option β} (h:Rd c s) (hab:0≤a∧a≤b∧b≤1000000) (k : ∀ z,Rd c z.2.1→Ok Q (f z)):Ok Q ((kz a b s).bind f):=Ok.bnd (Ot hc h hab) k
theorem sd : ∀(k:Nat) {s:aZ} {d:aV} {x2:Int} {x4:List ak} {x5:List an},k≤1000→Rd c s→ch d→Ok (fun z=>vR z.1.1∧Rd c z.2.1) (fh (k:Int) s x2 d.1 x4 x5 d.2.1 d.2.2.1)
 | 0,s,d,x2,x4,x5,_,h,hd=>by
  have hv:=hd.vl
  have hb:=hd.bl
  rw[p8,aq (by decide)]
  refine gt hc h (by decide) fun z _ _ hz=>Ok.ite (fun _ => ?_) fun _=>Ok.ite (fun _ => ?_) fun _=>Ok.ite (fun _ => ?_) fun _ => ?_
  ·refine Fk hc hz (by decide) fun y hy=>Ok.one ⟨?_,hy⟩
   exact⟨hd.szd.vl,hd.szd.bl,hd.szd.ul,hd.szd.sl,hd.szd.ss,hd.szd.bs⟩
  ·refine gt hc hz (by omega) fun y y0 y1 hy=>Fk hc hy (by decide) fun w hw=>Ok.inb ⟨y0,y1⟩ ?_
   unfold Dy
   exact Ok.one ⟨OA hd.szd y0 y1 _,hw⟩
  ·refine Fk hc hz (by decide) fun y hy=>Ok.app (by simp only[P3]; omega) (Ok.one ⟨?_,hy⟩)
   refine⟨hd.szd.vl,by show(d.2.2.1++[_]).length≤_; rw[P6,P3]; omega,hd.szd.ul,hd.szd.sl,hd.szd.ss,fun b hb => ?_⟩
   rcases List.mem_append.1 hb with hb | hb
   ·exact hd.szd.bs b hb
   ·rw[R7.1 hb]
    show(⟨#[122,122]⟩:P0).size≤9223372036854775807
    decide
  ·exact Ok.one ⟨hd.szd,hz⟩
 | k+1,s,d,x2,x4,x5,hk,h,hd=>by
  have hnx:=hd.nx
  have hw:IntKind.i64.wrap (((k+1:Nat):Int) - 1)=(k:Int):=by rw[wr (by omega) (by omega)]; omega
  rw[p8,ay (by omega),hw]
  refine gt hc h (by decide) fun z z0 z1 hz=>Ok.inbL ⟨#[]⟩ z0 z1 (by decide) (by decide) (by decide) fun hn=>gt hc hz (by decide) fun y _ _ hy=>Ok.ite (fun _ => ?_) fun _=>Ok.ite (fun _ => ?_) fun _ => ?_
  ·exact gt hc hy (by omega) fun w _ _ hw=>Ov (d:=d) hd hn _ fun v hv=>sd k (by omega) hw hv
  ·exact gt hc hy (by decide) fun w w0 w1 hw=>Ok.inbL ⟨#[]⟩ w0 w1 (by decide) (by decide) (by decide) fun hm=>Pe (d:=d) hd _ _ fun v hv=>sd k (by omega) hw hv
  ·refine Ox (d:=d) hd _ fun v=>Ok.ite (fun _ => ?_) fun _ => ?_
   ·exact OX (d:=d) hd _ fun w=>Ov (d:=d) hd hn _ fun u hu=>Ox hu _ fun t=>Oy hu _ fun q hq=>KQ hc hy hq (by decide) (by decide) fun p hp hp'=>Ow hu _ hp fun o ho=>sd k (by omega) hp' ho
   ·exact Oy (d:=d) hd _ fun q hq=>KQ hc hy hq (by decide) (by decide) fun p hp hp'=>Ow (d:=d) hd _ hp fun o ho=>sd k (by omega) hp' ho
theorem OB {n i:Int} (hn:0≤n∧n≤900) (h0:0≤i) (h1:i≤(c.length:Int)):Ok (fun z=>vR z.1.1∧Rd c z.2.1) (u6 n c i):=by
 rw[D7,HT,P1,wr (by omega) (by omega)]
 refine Ok.bnd (KP hc h0 h1 (by omega)) fun z hz => ?_
 obtain⟨m,hm⟩ : ∃ m:Nat,z.1.1=(m:Int):=⟨z.1.1.toNat,by omega⟩
 rw[hm]
 exact sd hc m (d:=Oz) (by omega) hz.2 Ns
theorem Gd:Ok (fun z=>vR z.1.1) (xE c):=by
 rw[FY,HS,P1]
 refine Ok.bnd (OB hc (by decide) (W4 _) (nn _)) fun z hz=>gt hc hz.2 (by split <;> omega) fun y _ _ hy=>gt hc hy (by split <;> omega) fun w _ _ hw=>Ok.one hz.1
end
end Go.Proofs.YtfffplonjaigkaaGreatDoor.Abs
