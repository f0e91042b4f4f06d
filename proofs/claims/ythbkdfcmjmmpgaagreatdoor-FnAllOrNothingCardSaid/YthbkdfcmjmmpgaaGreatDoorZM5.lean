/- Values: products, texts, order. -/
import Derived.Test.YthbkdfcmjmmpgaaGreatDoorZM4
set_option linter.unusedVariables false
set_option linter.unusedSimpArgs false
set_option linter.unusedSectionVars false
open Bool renaming and_eq_true→ah_,and_true→fd_,eq_iff_iff→bw_,false_eq_true→aj_,not_true→bc_,or_eq_true→cx_,true_and→bv_
open ByteArray renaming size→ay_,toList→ag_
open Go.IntKind renaming i64→hb_,wrap→ha_
open Go.Lib renaming decDigits→az_
open Int renaming le_refl→cj_,tdiv→dn_
open List renaming all_append→ee_,all_cons→do_,all_eq_true→ck_,getD_eq_getElem?_getD→ao_,getElem?_eq_getElem→as_,getElem?_eq_none→cd_,getElem?_eq_some_iff→ax_,getLast?_append→fb_,getLast?_singleton→es_,head?_cons→db_,isPrefixOf_iff_prefix→eh_,length_append→ae_,length_cons→ak_,length_reverse→gs_,length_singleton→ac_,length→al_,map_cons→cs_,mem_cons_of_mem→ar_,mem_cons_self→eq_,mem_cons→bb_,mem_of_getElem?→cg_,mem_singleton→bh_,pairwise_cons→bq_
open Nat renaming le_refl→aq_,le_trans→bn_,zero_le→dd_
open Option renaming bind_eq_some_iff→am_,bind_some→ab_,getD_some→cw_,map_some→du_,some_or→gk_
open Option.some renaming injEq→bg_,inj→cb_
open Prod.mk renaming injEq→fm_
open _root_ renaming ByteArray→aa_,beq_iff_eq→bt_,decide_eq_false→be_,decide_eq_true_eq→ai_,decide_eq_true→bd_,decide_true→ch_,if_false→aw_,if_neg→ad_,if_pos→af_,if_true→ba_
namespace Go.Proofs.YthbkdfcmjmmpgaaGreatDoor.Abs
open Go
def TB (x y:Int):ac:=if(x*y).natAbs≤1000000000000000 then vN (x*y) else vE 4
def IU:=qP TB
theorem An {p q:Int} (hq:0 < q):dn_ 1000000000000000 q < p ↔ ¬p*q≤1000000000000000:=by
 rw[Int.tdiv_eq_ediv_of_nonneg (by decide),←Int.not_le,Int.le_ediv_iff_mul_le hq]
theorem aaK {q:Int} (hq:0 < q):IntKind.i64.wrap (dn_ 1000000000000000 q)=dn_ 1000000000000000 q:=by
 have:=Am (x:=1000000000000000) (y:=q) (by omega) (by omega)
 exact wr (by omega) (by omega)
theorem Rk {x y:Int} (h:(x*y).natAbs≤1000000000000000):bnd (ha_ hb_ (x*y))=vN (x*y):=by
 rw[wr (by omega) (by omega)]
 unfold bnd
 rw[af_ (bC.2 (by omega))]
theorem Rl (x y:Int):(x.natAbs:Int)*(y.natAbs:Int)=((x*y).natAbs:Int):=by rw[Int.natAbs_mul]; simp
section
variable {a b:ac} (ha:a.2.2.1.size≤9223372036854775807) (hb:b.2.2.1.size≤9223372036854775807)
include ha hb
theorem VD:M4 a b=some ((IU a b,()),()):=by
 rw[Vz]
 unfold IU qP
 simp only[wL ha hb,kF,dA,ab_]
 cases ia:cJ a
 ·have:=cI a
  simp[this]
 ·cases ib:cJ b
  ·have:=cI b
   simp[this]
  ·have h1:=cu ia
   have h2:=cu ib
   generalize a.2.1=x at h1
   generalize b.2.1=y at h2
   unfold TB
   by_cases hx:x=0
   ·simp[hx,v0,bnd,cq]
   by_cases hy:y=0
   ·simp[hx,hy,v0,bnd,cq]
   have hm:=Rl x y
   have w1:IntKind.i64.wrap (0 - x) = - x:=by rw[wr (by omega) (by omega)]; omega
   have w2:IntKind.i64.wrap (0 - y) = - y:=by rw[wr (by omega) (by omega)]; omega
   have iC : ∀ p q:Int,p=(x.natAbs:Int)→q=(y.natAbs:Int)→(nz q (if decide (p > IntKind.i64.wrap (dn_ 1000000000000000 q))=true then some ((vE 4,()),()) else some ((bnd (ha_ hb_ (x*y)),()),())))=some ((if(x*y).natAbs≤1000000000000000 then vN (x*y) else vE 4,()),()):=by
    intro p q hp hq
    have hq0:0 < q:=by omega
    rw[GU (by omega),aaK hq0]
    by_cases hc:(x*y).natAbs≤1000000000000000
    ·rw[aD (by rw[gt_iff_lt,An hq0,hp,hq,hm]; omega),af_ hc,Rk hc]
    ·rw[aI (by rw[gt_iff_lt,An hq0,hp,hq,hm]; omega),ad_ hc]
   by_cases nx:x < 0 <;> by_cases ny:y < 0 <;> simp only[v0,hx,hy,nx,ny,oQ,w1,w2,ba_,aw_,ch_,decide_false,aj_,bne_self_eq_false,ab_] <;> refine iC _ _ ?_ ?_ <;> omega
theorem Ks:M2 a b=some ((IU a b,()),()):=by
 rw[Vr,yy]
 unfold IU qP
 simp only[eI ha,eI hb,eU ha,eU hb,Ql,r8,gC,ab_]
 cases ia:cJ a
 ·simp
 ·cases ib:cJ b
  ·simp
  ·have h1:=cu ia
   have h2:=cu ib
   generalize a.2.1=x at h1
   generalize b.2.1=y at h2
   unfold TB
   have hm:=Rl x y
   have w1:(if x < IntKind.i64.wrap (0 - x) then IntKind.i64.wrap (0 - x) else x)=(x.natAbs:Int):=by
    rw[wr (by omega) (by omega)]
    split <;> omega
   have w2:(if y < IntKind.i64.wrap (0 - y) then IntKind.i64.wrap (0 - y) else y)=(y.natAbs:Int):=by
    rw[wr (by omega) (by omega)]
    split <;> omega
   simp only[w1,w2,bc_,aj_,aw_,ba_]
   by_cases hy:y=0
   ·simp[hy,bnd,cq,wr (n:=0) (by decide) (by decide)]
   ·have hq0:0 < (y.natAbs:Int):=by omega
    rw[af_ (by simpa using hy),GU (by omega),aaK hq0]
    by_cases hc:(x*y).natAbs≤1000000000000000
    ·rw[aD (by rw[gt_iff_lt,An hq0,hm]; omega),af_ hc,Rk hc]
     rfl
    ·rw[aI (by rw[gt_iff_lt,An hq0,hm]; omega),ad_ hc]
     rfl
end
theorem Es {a:ac} (ha:a.2.2.1.size≤9223372036854775807):zW a=some ((Fq a,()),()):=by
 rw[Qk]
 unfold Fq Al qP
 have h0:cJ v0=true:=by decide
 simp only[CG ha,kF,ab_,h0,ba_]
 cases ia:cJ a
 ·have:=cI a
  simp[this]
 ·have h1:=cu ia
  simp[v0,wr (n := -a.2.1) (by omega) (by omega)]
theorem Et {a:ac} (ha:a.2.2.1.size≤9223372036854775807):Fb a=some ((Fq a,()),()):=by
 rw[Qd,show((0,0,({data := #[]}:aa_),()):ac)=v0 from rfl,Fs (by decide) ha]
 rfl
theorem wr8 {n:Int} (h0:0≤n) (h1:n≤255):IntKind.u8.wrap n=n:=by
 simp only[IntKind.wrap,IntKind.bits,IntKind.signed]
 simp
 omega
theorem Hh : ∀(k u:Nat),u < 10 ^ (k+1)→(az_ u).length≤k+1
 | 0,u,h=>by
  have h:u < 10:=by simpa using h
  rw[az_,dif_pos h]
  simp
 | k+1,u,h=>by
  rw[az_]
  split
  ·simp
  ·have:=Hh k (u / 10) (by rw[Nat.pow_succ] at h; exact Nat.div_lt_of_lt_mul (by omega))
   rw[ae_]
   simp only[ac_]
   omega
theorem tO {x:Nat} (h:x < 10):strOfNums ([IntKind.u8.wrap (ha_ hb_ (48+(x:Int)))]:List Int)=⟨#[UInt8.ofNat (48+x)]⟩:=by
 rw[wr (by omega) (by omega),wr8 (by omega) (by omega)]
 unfold strOfNums
 simp only[cs_,List.map_nil]
 congr 3
theorem yS {a b:aa_} (h:a.data.toList=b.data.toList):a=b:=by
 cases a; cases b
 congr 1
 exact Array.toList_inj.1 h
theorem CH : ∀(n u:Nat) (acc:aa_),u≤n→u≤9223372036854775807→acc.size+n≤9223372036854775806→sx (u:Int) acc=some ((⟨(az_ u).toArray⟩++acc,()),()):=by
 intro n
 induction n with
 | zero =>
  intro u acc h1 h2 h3
  have:u=0:=by omega
  subst this
  rw[u7,aD (by decide),show((0:Nat):Int)=((0:Nat):Int) from rfl,tO (x:=0) (by decide),ga (by simp only[ay_]; simp; have:acc.data.size=acc.size:=rfl; omega)]
  rw[az_,dif_pos (by decide)]
 | succ n ih =>
  intro u acc h1 h2 h3
  rw[u7]
  have hs : ∀ c:UInt8,(⟨#[c]⟩:aa_).size=1:=fun _=>rfl
  by_cases h:u < 10
  ·rw[aD (by omega),tO h,ga (by rw[hs]; omega)]
   rw[az_,dif_pos h]
  ·have e1:Int.tmod (u:Int) 10=((u % 10:Nat):Int):=by
    rw[Int.tmod_eq_emod_of_nonneg (by omega)]
    omega
   have e2:dn_ (u:Int) 10=((u / 10:Nat):Int):=by
    rw[Int.tdiv_eq_ediv_of_nonneg (by omega)]
    omega
   rw[aI (by omega),e1,e2,tO (Nat.mod_lt _ (by decide)),ga (by rw[hs]; omega),wr (by omega) (by omega),ih (u / 10) _ (by omega) (by omega) (by rw[size_append,hs]; omega)]
   conv=>rhs; rw[az_,dif_neg h]
   congr 3
   apply yS
   simp
theorem py (u:Nat):cY (u:Int)=⟨(az_ u).toArray⟩:=by
 unfold cY Lib.itoa
 rw[ad_ (by omega)]
 simp
theorem wM {n:Int} (h:n < 0):cY n=⟨#[45]⟩++cY (-n):=by
 unfold cY Lib.itoa
 rw[af_ h,ad_ (by omega)]
 apply yS
 simp
 congr 1
 omega
theorem IV {u:Nat} (h:u≤9223372036854775807):(⟨(az_ u).toArray⟩:aa_).size≤19:=by
 have:=Hh 18 u (by omega)
 simpa[ay_] using this
theorem qr {n:Int} (h0 : -9223372036854775807≤n) (h1:n≤9223372036854775807):(cY n).size≤20:=by
 by_cases h:n < 0
 ·rw[wM h,size_append,show -n=((-n).toNat:Int) by omega,py]
  have:=IV (u:=(-n).toNat) (by omega)
  have h1:(⟨#[45]⟩:aa_).size=1:=rfl
  omega
 ·rw[show n=(n.toNat:Int) by omega,py]
  have:=IV (u:=n.toNat) (by omega)
  omega
theorem Hi {u:Nat} (h:u≤9223372036854775807):cf (u:Int)=some ((cY (u:Int),()),()):=by
 have h19:=IV h
 rw[Kr,aD (by omega),py]
 have h2 : ∀ acc:aa_,acc.size=0→sx (u:Int) acc=some ((⟨(az_ u).toArray⟩++acc,()),()):=by
  intro acc ha
  by_cases hu:u≤9223372036854775806
  ·exact CH u u acc (aq_ _) h (by omega)
  ·have hu:u=9223372036854775807:=by omega
   subst hu
   have hs : ∀ c:UInt8,(⟨#[c]⟩:aa_).size=1:=fun _=>rfl
   have e1:Int.tmod ((9223372036854775807:Nat):Int) 10=((7:Nat):Int):=by decide
   have e2:dn_ ((9223372036854775807:Nat):Int) 10=((922337203685477580:Nat):Int):=by decide
   rw[u7,aI (by decide),e1,e2,tO (by decide),ga (by rw[hs]; omega),wr (by omega) (by omega),CH 922337203685477580 _ _ (by omega) (by omega) (by rw[size_append,hs]; omega)]
   conv=>rhs; rw[az_,dif_neg (by decide)]
   congr 3
   apply yS
   simp
 rw[h2 _ rfl]
 congr 3
 apply yS
 simp
theorem CI {n:Int} (h0 : -9223372036854775807≤n) (h1:n≤9223372036854775807):cf n=some ((cY n,()),()):=by
 by_cases h:n < 0
 ·have hz:=qr (n := -n) (by omega) (by omega)
  have h45:(⟨#[45]⟩:aa_).size=1:=rfl
  rw[Kr,aI h,wr (by omega) (by omega),show(0 - n:Int)=((-n).toNat:Int) by omega,Hi (by omega),show(((-n).toNat:Nat):Int) = -n by omega]
  simp only[ab_]
  rw[ga (by omega),←wM h]
 ·rw[show n=(n.toNat:Int) by omega]
  exact Hi (by omega)
theorem xq {n:Int} (h0 : -9223372036854775808≤n) (h1:n≤9223372036854775807):kP n=some ((cY n,()),()):=by
 rw[P4,Ad]
 show(if(10:Int)=10∧_∧_ then _ else _:Option _).bind _=_
 rw[af_ ⟨rfl,h0,h1⟩]
 rfl
def XQ:List aa_:=[(⟨#[]⟩:aa_),(⟨#[35,68,73,86,33]⟩:aa_),(⟨#[35,84,89,80,69,33]⟩:aa_),(⟨#[35,82,69,70,33]⟩:aa_),(⟨#[35,79,86,69,82,33]⟩:aa_),(⟨#[35,67,89,67,76,69,33]⟩:aa_)]
def df (n:Int):aa_:=XQ.getD n.toNat eS
theorem tP {n:Int} (h0:0≤n) (h1:n≤5):mV n=some ((df n,()),()):=by
 rw[SY,bI h0 (by show n < 6; omega)]
 rfl
theorem oq {n:Int} (h0:0≤n) (h1:n≤5):ii n=some ((df n,()),()):=by
 rw[Lx,bI h0 (by show n < 6; omega)]
 rfl
def wN (n:Int):aa_:=if n=1 then⟨#[84,82,85,69]⟩ else⟨#[70,65,76,83,69]⟩
theorem TC (n:Int):Ij n=some ((wN n,()),()):=by
 rw[S1]
 unfold wN
 by_cases h:n=1 <;> simp[h]
def bO (v:ac):aa_:=if v.1=1 then cY v.2.1 else if v.1=2 then(⟨#[39]⟩:aa_)++v.2.2.1 else if v.1=3 then wN v.2.1 else if v.1=4 then df v.2.1 else eS
theorem rj {v:ac} (h:aA v=true) (k:v.1=1) : -1000000000000000≤v.2.1∧v.2.1≤1000000000000000:=by
 unfold aA at h
 rw[ad_ (by omega),ad_ (by omega),af_ k] at h
 simp only[ah_,ai_] at h
 exact bC.1 h.2
theorem yT {v:ac} (h:aA v=true) (k:v.1=3):0≤v.2.1∧v.2.1≤1:=by
 unfold aA at h
 rw[ad_ (by omega),ad_ (by omega),ad_ (by omega),af_ k] at h
 simp only[ah_,ai_] at h
 exact bC.1 h.2
theorem uc {v:ac} (h:aA v=true) (k:v.1=4):1≤v.2.1∧v.2.1≤5:=by
 unfold aA at h
 rw[ad_ (by omega),ad_ (by omega),ad_ (by omega),ad_ (by omega),af_ k] at h
 simp only[ah_,ai_] at h
 exact bC.1 h.2
theorem tQ {v:ac} (h:aA v=true):v.1=0∨v.1=1∨v.1=2∨v.1=3∨v.1=4:=by
 unfold aA at h
 split at h
 ·omega
 ·simp only[ah_] at h
  have h:=h.2
  split at h
  ·omega
  ·split at h
   ·omega
   ·split at h
    ·omega
    ·split at h
     ·omega
     ·cases h
theorem VE (n:Int):(df n).size≤10:=by
 have h : ∀ i:Nat,i < 6→(XQ.getD i eS).size≤10:=by decide
 unfold df
 by_cases hn:n.toNat < 6
 ·exact h _ hn
 ·rw[ao_,cd_ (by show 6≤n.toNat; omega)]
  decide
theorem Kt {v:ac} (h:aA v=true):(bO v).size≤201:=by
 have hs:=dE h
 unfold bO
 split
 ·have:=rj h ‹_›
  exact bn_ (qr (by omega) (by omega)) (by decide)
 ·split
  ·rw[size_append]
   have:(⟨#[39]⟩:aa_).size=1:=rfl
   omega
  ·split
   ·unfold wN
    split <;> decide
   ·split
    ·exact bn_ (VE _) (by decide)
    ·decide
theorem TD {β:Type} {s:aa_} {f:aa_→Option β} (h:s.size≤9223372036854775806):cats (⟨#[39]⟩:aa_) s f=f ((⟨#[39]⟩:aa_)++s):=ga (by
 have:(⟨#[39]⟩:aa_).size=1:=rfl
 omega)
theorem eP {v:ac} (hs:v.2.2.1.size≤9223372036854775807):dY v=some ((if aA v=true then bO v else eS,()),()):=by
 rw[Ls,fi hs,ab_]
 unfold bO
 cases h:aA v
 ·rfl
 ·have hz:=dE h
  simp only[bc_,aj_,aw_,ba_,bt_]
  by_cases h1:v.1=1
  ·have:=rj h h1
   simp[h1,CI (n:=v.2.1) (by omega) (by omega)]
  by_cases h2:v.1=2
  ·simp only[h2,ba_,TD (s:=v.2.2.1) (by omega)]
   rfl
  by_cases h3:v.1=3
  ·simp[h3,TC]
  by_cases h4:v.1=4
  ·have:=uc h h4
   simp[h4,tP (n:=v.2.1) (by omega) (by omega)]
  simp[h1,h2,h3,h4]
theorem s8 {v:ac} (h:aA v=true):fp v=some ((bO v,()),()):=by
 rw[Ly]
 unfold bO
 have hz:=dE h
 simp only[bt_]
 by_cases h1:v.1=1
 ·have:=rj h h1
  simp[h1,xq (n:=v.2.1) (by omega) (by omega)]
 by_cases h2:v.1=2
 ·simp only[h2,ba_,TD (s:=v.2.2.1) (by omega)]
  rfl
 by_cases h3:v.1=3
 ·have:=yT h h3
  simp only[h3,ba_]
  rw[ad_ (by decide),ad_ (by decide),ad_ (by decide),ad_ (by decide),bI (by omega) (by show v.2.1 < 2; omega)]
  unfold wN
  by_cases h5:v.2.1=1
  ·rw[h5]
   rfl
  ·rw[show v.2.1=0 by omega]
   rfl
 by_cases h4:v.1=4
 ·have:=uc h h4
  simp[h4,oq (n:=v.2.1) (by omega) (by omega)]
 simp[h1,h2,h3,h4]
theorem Bh {v:ac} (hs:v.2.2.1.size≤9223372036854775807):kR v=some ((if aA v=true then bO v else eS,()),()):=by
 rw[LG,fj hs,ab_]
 cases h:aA v
 ·rfl
 ·rw[s8 h]
  rfl
def my (v:ac):Bool:=aA v && !decide (v.1=4)
def pz (v:ac):aa_:=if v.1=2 then v.2.2.1 else bO v
theorem rk {v:ac} (h:aA v=true):(pz v).size≤201:=by
 unfold pz
 split
 ·exact bn_ (dE h) (by decide)
 ·exact Kt h
theorem tR {v:ac} (hs:v.2.2.1.size≤9223372036854775807) : ∃ t,yl v=some ((t,my v,()),())∧(my v=true→t=pz v):=by
 rw[Tc]
 unfold my pz
 simp only[fj hs,Bh hs,ab_,bt_]
 by_cases h2:v.1=2
 ·refine⟨_,by simp[h2]; rfl,fun _=>by simp[h2]⟩
 ·cases h:aA v
  ·exact⟨_,by simp[h2]; rfl,fun h=>by cases h⟩
  ·refine⟨bO v,?_,fun _=>by simp[h2]⟩
   simp only[h2,aw_,ba_,bv_]
   rfl
theorem Ao {v:ac} (hs:v.2.2.1.size≤9223372036854775807):yn v=some ((if my v=true then pz v else eS,if my v=true then v0 else g7 v,()),()):=by
 rw[Tj]
 unfold my pz g7
 simp only[fi hs,dA,eP hs,ab_,bt_]
 cases h:aA v
 ·rfl
 ·by_cases h4:v.1=4
  ·simp[h4]
  ·by_cases h2:v.1=2 <;> simp[h2,h4,v0]
theorem ud {v:ac} (h:my v=true):aA v=true:=by
 unfold my at h
 simp only[ah_] at h
 exact h.1
def Ap (a b:ac):ac:=if my a=true then(if my b=true then(if 200 < (pz a).size+(pz b).size then vE 4 else vT (pz a++pz b)) else g7 b) else g7 a
section
variable {a b:ac} (ha:a.2.2.1.size≤9223372036854775807) (hb:b.2.2.1.size≤9223372036854775807)
include ha hb
theorem TE:Ip a b=some ((Ap a b,()),()):=by
 rw[Tn]
 unfold Ap
 simp only[Ao ha,Ao hb,dA,ab_,bne_iff_ne,ne_eq]
 cases ia:my a
 ·have:=cI a
  simp[this]
 ·cases ib:my b
  ·have:=cI b
   simp[this,v0]
  ·have h1:=rk (ud ia)
   have h2:=rk (ud ib)
   simp only[ba_,v0,not_true,aw_]
   rw[wr (by omega) (by omega)]
   by_cases hc:200 < (pz a).size+(pz b).size
   ·rw[aI (by omega),af_ hc]
   ·rw[aD (by omega),ad_ hc,ga (by omega)]
    rfl
theorem Hj:Il a b=some ((Ap a b,()),()):=by
 rw[Te]
 unfold Ap
 obtain⟨t,e1,e2⟩:=tR ha
 obtain⟨u,e3,e4⟩:=tR hb
 simp only[e1,e3,eU ha,eU hb,gC,ab_]
 cases ia:my a
 ·simp
 ·cases ib:my b
  ·simp
  ·have h1:=rk (ud ia)
   have h2:=rk (ud ib)
   rw[e2 ia,e4 ib]
   simp only[ba_,bc_,aj_,aw_]
   rw[wr (by omega) (by omega)]
   by_cases hc:200 < (pz a).size+(pz b).size
   ·rw[aI (by omega),af_ hc]
   ·rw[aD (by omega),ad_ hc,ga (by omega)]
    rfl
end
def qu (x y:Int):Int:=if x < y then -1 else if y < x then 1 else 0
def NL (x y:aa_):Int:=if JQ x y=true then -1 else if x=y then 0 else 1
def NM (a b:ac):Int:=if a.1≠b.1 then qu a.1 b.1 else if a.2.1≠b.2.1 then qu a.2.1 b.2.1 else NL a.2.2.1 b.2.2.1
theorem TF (p q:Bool):yo p q=some ((if p=true then -1 else if q=true then 1 else 0,()),()):=by
 rw[Tp]
 cases p <;> cases q <;> rfl
theorem VF (a b:ac):M5 a b=some ((NM a b,()),()):=by
 rw[VA]
 unfold NM qu NL
 simp only[TF,ab_,bne_iff_ne,ai_,so]
 by_cases h1:a.1=b.1
 ·by_cases h2:a.2.1=b.2.1
  ·simp only[h1,h2,ne_eq,not_true,aw_]
   change _=some ((if JQ a.2.2.1 b.2.2.1=true then _ else _,()),())
   change some ((if JQ a.2.2.1 b.2.2.1=true then _ else if(!(JQ a.2.2.1 b.2.2.1 || _))=true then _ else _,()),())=_
   cases JQ a.2.2.1 b.2.2.1
   ·by_cases h3:a.2.2.1=b.2.2.1 <;> simp[h3]
   ·rfl
  ·simp only[h1,h2,ne_eq,not_true,not_false_eq_true,aw_,ba_]
   by_cases h3:a.2.1 < b.2.1
   ·simp[h3]
   ·have h4:b.2.1 < a.2.1:=by omega
    simp[h3,h4]
 ·simp only[h1,ne_eq,not_true,not_false_eq_true,ba_]
  by_cases h3:a.1 < b.1
  ·simp[h3]
  ·have h4:b.1 < a.1:=by omega
   simp[h3,h4]
theorem CJ (x y:Int):fA x y=some ((qu x y,()),()):=by
 rw[Aa,sy,sy]
 unfold qu
 simp
 by_cases h:x < y
 ·simp[h]
 ·by_cases h2:y < x <;> simp[h,h2]
theorem VG (x y:aa_):mi x y=some ((NL x y,()),()):=by
 rw[yz,qI,qI]
 unfold NL
 simp only[so,ch_,bc_,ab_,aj_,aw_]
 change (if JQ x y=true then _ else if(!(JQ x y || _))=true then _ else _)=_
 cases JQ x y
 ·by_cases h3:x=y <;> simp[h3]
 ·rfl
theorem NN {l:List Int} (hl:l.length≤100) : ∀(ys pre:List Int),l=pre++ys→ol 0 l (l.length:Int) (pre.length:Int)=some (((ys.find? fun y=>decide (y≠0)).getD 0,()),())
 | [],pre,he=>by
  rw[vf,aD (bj he)]
  rfl
 | y :: ys,pre,he=>by
  rw[vf,aI (bA he),bD he,aK he (by omega),NN hl ys _ (aB he)]
  by_cases h:y=0
  ·simp[h]
  ·simp[h]
theorem NO {l:List Int} (hl:l.length≤100):tA l=some (((l.find? fun y=>decide (y≠0)).getD 0,()),()):=by
 rw[Lw]
 exact NN hl l [] rfl
theorem Hk {x y:Int}:qu x y=0↔x=y:=by
 unfold qu
 split
 ·omega
 ·split <;> omega
theorem VH (a b:ac):Cl a b=some ((NM a b,()),()):=by
 rw[Vs]
 simp only[CJ,VG,ab_]
 rw[NO (by simp)]
 unfold NM
 by_cases h1:a.1=b.1
 ·have e1:=Hk.2 h1
  rw[ad_ (by simp[h1])]
  by_cases h2:a.2.1=b.2.1
  ·have e2:=Hk.2 h2
   rw[ad_ (by simp[h2])]
   by_cases h3:NL a.2.2.1 b.2.2.1=0 <;> simp[List.find?,e1,e2,h3]
  ·have e2:qu a.2.1 b.2.1≠0:=fun h=>h2 (Hk.1 h)
   rw[af_ (by simp[h2])]
   simp[List.find?,e1,e2]
 ·have e1:qu a.1 b.1≠0:=fun h=>h1 (Hk.1 h)
  rw[af_ (by simp[h1])]
  simp[List.find?,e1]
def NP (a b:ac):ac:=if a.1=0 then(b.1,a.2.1,a.2.2.1,()) else a
def rel (op o:Int):Bool:=if op=6 then decide (o=0) else if op=7 then !decide (o=0) else if op=8 then decide (o < 0) else if op=9 then decide (o≤0) else if op=10 then decide (0 < o) else decide (0≤o)
def Aq (op:Int) (a b:ac):ac:=if aA a=true then(if aA b=true then(if cq op 6 11=true then(if a.1=4 then a else if b.1=4 then b else vB (rel op (NM (NP a b) (NP b a)))) else vE 2) else vE 2) else vE 2
theorem TG (a b:ac):Dz a b=some ((NP a b,()),()):=by
 rw[To]
 unfold NP
 by_cases h:a.1=0 <;> simp[h]
theorem abA {op o:Int} (h:cq op 6 11=true):List.getD [(o == 0),(o != 0),decide (o < 0),decide (o≤0),decide (o > 0),decide (o≥0)] (Int.toNat (ha_ hb_ (op - 6))) false=rel op o:=by
 have:=bC.1 h
 rw[wr (by omega) (by omega)]
 have h6:op=6∨op=7∨op=8∨op=9∨op=10∨op=11:=by omega
 rcases h6 with rfl | rfl | rfl | rfl | rfl | rfl <;> rfl
section
variable {op:Int} {a b:ac} (ha:a.2.2.1.size≤9223372036854775807) (hb:b.2.2.1.size≤9223372036854775807)
include ha hb
theorem XR:SB op a b=some ((Aq op a b,()),()):=by
 rw[XL]
 unfold Aq rel
 simp only[fi ha,fi hb,dA,jR,TG,VF,tN,ab_,bt_]
 cases aA a
 ·rfl
 cases aA b
 ·rfl
 cases cq op 6 11
 ·rfl
 simp only[bc_,aj_,aw_,ba_]
 by_cases h1:a.1=4
 ·simp[h1]
 by_cases h2:b.1=4
 ·simp[h1,h2]
 simp only[h1,h2,aw_]
 by_cases o6:op=6
 ·simp[o6,oQ]
 by_cases o7:op=7
 ·simp[o7]; rfl
 by_cases o8:op=8
 ·simp[o8]
 by_cases o9:op=9
 ·simp[o9]
 by_cases o10:op=10
 ·simp[o10]
 simp[o6,o7,o8,o9,o10]
theorem NQ:Sy op a b=some ((Aq op a b,()),()):=by
 rw[XF]
 unfold Aq
 simp only[fj ha,fj hb,gC,gj,VH,ab_,bt_]
 cases aA a
 ·rfl
 cases aA b
 ·rfl
 cases hi:cq op 6 11
 ·rfl
 have hio:=bC.1 hi
 simp only[bc_,aj_,aw_,ba_]
 by_cases h1:a.1=4
 ·simp[h1]
 by_cases h2:b.1=4
 ·simp[h1,h2]
 have hin : ∀(x1 x2 x3 x4 x5 x6:Bool) (k:Option ((ac×Unit)×Unit)),inb [x1,x2,x3,x4,x5,x6] (ha_ hb_ (op - 6)) k=k:=fun x1 x2 x3 x4 x5 x6 k=>by
  rw[wr (by omega) (by omega)]
  exact bI (by omega) (by show op - 6 < 6; omega)
 simp only[h1,h2,aw_,hin,abA hi,mw,ab_]
 unfold NP
 by_cases h3:a.1=0
 ·by_cases h4:b.1=0
  ·have eb:((0,b.2.1,b.2.2.1,()):ac)=b:=by rw[←h4]
   simp only[h3,h4,ba_,eb]
  ·simp[h3,h4]
 ·by_cases h4:b.1=0
  ·simp[h3,h4]
  ·simp[h3,h4]
end
abbrev p0:cl:=((0,0,()),false,false,())
abbrev ab.kids (x:ab):List Int:=x.2.2.2.2.2.1
def n4 (op k:Int):Bool:=if op=5 then(decide (k=2) || decide (k=3)) else if cq op 1 7=true then cq k 1 10 else if cq op 8 10=true then decide (k=1) else false
def kl (x:ab):Int:=(al_ x.2.2.2.2.2.1:Int)
def dF (x:ab):Bool :=
 if x.1=1 then decide (x.2.1=0) && decide (x.2.2.2.1=p0) && decide (x.2.2.2.2.1=p0) && decide (kl x=0) && aA x.2.2.1 && !decide (x.2.2.1.1=0) && (!decide (x.2.2.1.1=1) || decide (0≤x.2.2.1.2.1))
 else if x.1=2 then decide (x.2.1=0) && decide (x.2.2.1=v0) && decide (x.2.2.2.2.1=p0) && decide (kl x=0) && bT x.2.2.2.1.1
 else if x.1=3 then decide (x.2.1=0) && decide (x.2.2.1=v0) && decide (kl x=0) && qq (x.2.2.2.1.1,x.2.2.2.2.1.1,())
 else if x.1=4 then decide (x.2.1=0) && decide (x.2.2.1=v0) && decide (x.2.2.2.1=p0) && decide (x.2.2.2.2.1=p0) && decide (kl x=1)
 else if x.1=5 then cq x.2.1 1 11 && decide (x.2.2.1=v0) && decide (x.2.2.2.1=p0) && decide (x.2.2.2.2.1=p0) && decide (kl x=2)
 else if x.1=6 then n4 x.2.1 (kl x) && decide (x.2.2.1=v0) && decide (x.2.2.2.1=p0) && decide (x.2.2.2.2.1=p0)
 else false
theorem XS {a b:cl}:(bk bR a b=true)=(a=b):=propext (km rfl)
theorem XT {a b:ac}:(bk aq a b=true)=(a=b):=propext (km rfl)
theorem YV (a b:cl):bk bR a b=decide (a=b):=by
 rw[bw_,ai_,XS]
theorem YW (a b:ac):bk aq a b=decide (a=b):=by
 rw[bw_,ai_,XT]
theorem TH (op k:Int):Ii op k=some ((n4 op k,()),()):=by
 rw[SX]
 unfold n4 cq
 simp only[bt_,ai_,ge_iff_le,oQ]
 by_cases h:op=1∨op=2∨op=3∨op=4∨op=5∨op=6∨op=7∨op=8∨op=9∨op=10
 ·by_cases hk:1≤k <;> by_cases hk2:k=2 <;> rcases h with rfl | rfl | rfl | rfl | rfl | rfl | rfl | rfl | rfl | rfl <;> simp[hk,hk2] <;> omega
 ·have h1:op≠1:=by omega
  have h2:op≠2:=by omega
  have h3:op≠3:=by omega
  have h4:op≠4:=by omega
  have h5:op≠5:=by omega
  have h6:op≠6:=by omega
  have h7:op≠7:=by omega
  have h8:op≠8:=by omega
  have h9:op≠9:=by omega
  have h10:op≠10:=by omega
  have h11 : ¬(1≤op∧op≤7):=by omega
  have h12 : ¬(8≤op∧op≤10):=by omega
  simp only[h1,h2,h3,h4,h5,h6,h7,h8,h9,h10,h11,h12,aw_]
theorem CK {x:ab} (h:x.2.2.1.2.2.1.size≤9223372036854775807):wa x=some ((dF x,()),()):=by
 rw[Np]
 unfold dF kl
 simp only[fi h,kE,Tz,jR,TH,ab_,bt_,bne_iff_ne,ne_eq,XS,XT,YV,YW,oQ,v0,ge_iff_le]
 generalize (al_ x.2.2.2.2.2.1:Int)=k
 by_cases h1:x.1=1
 ·by_cases a1:x.2.1=0 <;> by_cases a2:x.2.2.2.1=p0 <;> by_cases a3:x.2.2.2.2.1=p0 <;> by_cases a4:k=0 <;> cases ov:aA x.2.2.1 <;> by_cases a5:x.2.2.1.1=0 <;> by_cases a6:x.2.2.1.1=1 <;> simp[a1,a2,a3,a4,a5,a6,h1,ov]
 by_cases h2:x.1=2
 ·by_cases a1:x.2.1=0 <;> by_cases a2:x.2.2.1=(0,0,eS,()) <;> by_cases a3:x.2.2.2.2.1=p0 <;> by_cases a4:k=0 <;> simp[a1,a2,a3,a4,h2]
 by_cases h3:x.1=3
 ·by_cases a1:x.2.1=0 <;> by_cases a2:x.2.2.1=(0,0,eS,()) <;> by_cases a4:k=0 <;> simp[a1,a2,a4,h3]
 by_cases h4:x.1=4
 ·by_cases a1:x.2.1=0 <;> by_cases a2:x.2.2.1=(0,0,eS,()) <;> by_cases a3:x.2.2.2.1=p0 <;> by_cases a4:x.2.2.2.2.1=p0 <;> simp[a1,a2,a3,a4,h4]
 by_cases h5:x.1=5
 ·cases hi:cq x.2.1 1 11 <;> by_cases a2:x.2.2.1=(0,0,eS,()) <;> by_cases a3:x.2.2.2.1=p0 <;> by_cases a4:x.2.2.2.2.1=p0 <;> simp[a2,a3,a4,h5,hi]
 by_cases h6:x.1=6
 ·cases hi:n4 x.2.1 k <;> by_cases a2:x.2.2.1=(0,0,eS,()) <;> by_cases a3:x.2.2.2.1=p0 <;> simp[a2,a3,h6,hi]
 simp[h1,h2,h3,h4,h5,h6]
theorem Hl {x:ab} (h:x.2.2.1.2.2.1.size≤9223372036854775807):uR x=some ((dF x,()),()):=by
 have c1 : ∀ a:cl,(p0=a)=(a=p0):=fun a=>propext eq_comm
 have c2 : ∀ a:ac,((0,0,eS,())=a)=(a=(0,0,eS,())):=fun a=>propext eq_comm
 rw[G4,Cv,Fh]
 unfold dF kl n4
 simp only[fj h,yv,TA,gj,ab_,bt_,bne_iff_ne,ne_eq,XS,XT,YV,YW,oQ,v0,ge_iff_le,c1,c2]
 generalize (al_ x.2.2.2.2.2.1:Int)=k
 by_cases h1:x.1=1
 ·simp only[h1,ba_]
  by_cases a1:x.2.1=0 <;> by_cases a2:x.2.2.2.1=p0 <;> by_cases a3:x.2.2.2.2.1=p0 <;> by_cases a4:k=0 <;> cases aA x.2.2.1 <;> by_cases a5:x.2.2.1.1=0 <;> by_cases a6:x.2.2.1.1=1 <;> by_cases a7:x.2.2.1.2.1 < 0 <;> have a8:(0≤x.2.2.1.2.1) = ¬x.2.2.1.2.1 < 0:=propext (by omega) <;> simp[a1,a2,a3,a4,a5,a6,a7,a8]
 by_cases h2:x.1=2
 ·have e:qq (x.2.2.2.1.1,x.2.2.2.1.1,())=bT x.2.2.2.1.1:=by
   unfold qq
   simp
  by_cases a1:x.2.1=0 <;> by_cases a2:x.2.2.1=(0,0,eS,()) <;> by_cases a3:x.2.2.2.2.1=p0 <;> by_cases a4:k=0 <;> cases hr:bT x.2.2.2.1.1 <;> simp[a1,a2,a3,a4,h2,e,hr]
 by_cases h3:x.1=3
 ·by_cases a1:x.2.1=0 <;> by_cases a2:x.2.2.1=(0,0,eS,()) <;> by_cases a4:k=0 <;> cases hr:qq (x.2.2.2.1.1,x.2.2.2.2.1.1,()) <;> simp[a1,a2,a4,h3,hr]
 by_cases h4:x.1=4
 ·by_cases a1:x.2.1=0 <;> by_cases a2:x.2.2.1=(0,0,eS,()) <;> by_cases a3:x.2.2.2.1=p0 <;> by_cases a4:x.2.2.2.2.1=p0 <;> by_cases a5:k=1 <;> simp[a1,a2,a3,a4,a5,h4]
 by_cases h5:x.1=5
 ·cases hi:cq x.2.1 1 11 <;> by_cases a2:x.2.2.1=(0,0,eS,()) <;> by_cases a3:x.2.2.2.1=p0 <;> by_cases a4:x.2.2.2.2.1=p0 <;> by_cases a5:k=2 <;> simp[a2,a3,a4,a5,h5,hi]
 by_cases h6:x.1=6
 ·by_cases a2:x.2.2.1=(0,0,eS,()) <;> by_cases a3:x.2.2.2.1=p0 <;> by_cases a4:x.2.2.2.2.1=p0 <;> simp only[a2,a3,a4,h6,ba_,aw_,ch_,decide_false,Bool.and_false,fd_]
  all_goals
   generalize x.2.1=op
   unfold cq
   by_cases b1:1≤op∧op≤10
   ·by_cases b2:op=5
    ·subst b2
     by_cases b3:2≤k∧k≤3
     ·have:k=2∨k=3:=by omega
      rcases this with rfl | rfl <;> simp
     ·have : ¬k=2:=by omega
      have : ¬k=3:=by omega
      simp[b3, *]
    ·by_cases b3:8≤op
     ·have b4 : ¬(op≤7):=by omega
      have b5:op≤10:=by omega
      by_cases b6:k=1 <;> simp[b1,b2,b3,b4,b5,b6]
     ·have b4:op≤7:=by omega
      by_cases b6:1≤k∧k≤10 <;> simp[b1,b2,b3,b4,b6]
   ·have b2 : ¬op=5:=by omega
    have b3 : ¬(1≤op∧op≤7):=by omega
    have b4 : ¬(8≤op∧op≤10):=by omega
    simp[b1,b2,b3,b4]
 simp[h1,h2,h3,h4,h5,h6]
def nG (f:List ab) (i:Int):Bool:=decide ((f.getD i.toNat au.dflt).1=3)
def fb (f:List ab) (k:Int):ab:=f.getD k.toNat au.dflt
def gk (c:Int→Option (Int×Nat)) (f:List ab) (call:Bool):List Int→Int→Nat→Option (Int×Nat)
 | [],cur,h=>some (cur,h+1)
 | kid :: l,cur,h=>if kid=cur - 1∧0≤kid∧(nG f kid=true→call=true) then(c kid).bind fun p=>gk c f call l p.1 (max h p.2) else none
def fG (f:List ab):Nat→Int→Option (Int×Nat)
 | 0,_=>none
 | n+1,k=>if 0≤k then match f[k.toNat]? with
  | none=>none
  | some x=>if dF x=true then gk (fG f n) f (decide (x.1=6)) x.2.2.2.2.2.1.reverse k 0 else none
  else none
def lq (f:List ab) (i:Nat) (x:ab):Prop:=dF x=true ∧ ∀ k∈x.2.2.2.2.2.1,0≤k∧k < i∧(nG f k=true→x.1=6)
theorem sH {c:Int→Option (Int×Nat)} {f:List ab} {call:Bool} (hc : ∀ k s h,c k=some (s,h)→0≤s∧s≤k ∧ ∀ i:Nat,s≤i→(i:Int)≤k → ∃ x,f[i]? = some x∧lq f i x) :
  ∀(l:List Int) (cur:Int) (h:Nat) (s:Int) (h':Nat),0≤cur→gk c f call l cur h=some (s,h')→0≤s∧s≤cur∧h+1≤h'∧(∀ i:Nat,s≤i→(i:Int) < cur → ∃ x,f[i]? = some x∧lq f i x) ∧ ∀ k∈l,0≤k∧k < cur∧(nG f k=true→call=true)
 | [],cur,h,s,h',h0,e=>by
  simp only[gk,bg_,fm_] at e
  obtain⟨rfl,rfl⟩:=e
  exact⟨h0,cj_ _,aq_ _,fun i h1 h2=>by omega,fun k hk=>by cases hk⟩
 | kid :: l,cur,h,s,h',h0,e=>by
  simp only[gk] at e
  split at e
  ·rename_i hk
   rw[am_] at e
   obtain⟨⟨t,ht⟩,e1,e2⟩:=e
   obtain⟨a1,a2,a3⟩:=hc _ _ _ e1
   obtain⟨b1,b2,b3,b4,b5⟩:=sH hc l t (max h ht) s h' a1 e2
   refine⟨b1,by omega,by omega,fun i h1 h2 => ?_,fun k hm => ?_⟩
   ·by_cases hi:(i:Int) < t
    ·exact b4 i h1 hi
    ·exact a3 i (by omega) (by omega)
   ·rcases bb_.1 hm with rfl | hm
    ·exact⟨hk.2.1,by omega,hk.2.2⟩
    ·have:=b5 k hm
     exact⟨this.1,by omega,this.2.2⟩
  ·cases e
theorem jt (f:List ab) : ∀(n:Nat) (k s:Int) (h:Nat),fG f n k=some (s,h)→0≤s∧s≤k ∧ ∀ i:Nat,s≤i→(i:Int)≤k → ∃ x,f[i]? = some x∧lq f i x
 | 0,_,_,_,e=>by cases e
 | n+1,k,s,h,e=>by
  simp only[fG] at e
  split at e
  ·rename_i h0
   split at e
   ·cases e
   ·rename_i x hx
    split at e
    ·rename_i ho
     obtain⟨b1,b2,b3,b4,b5⟩:=sH (jt f n) _ _ _ _ _ h0 e
     refine⟨b1,b2,fun i h1 h2 => ?_⟩
     by_cases hi:(i:Int) < k
     ·exact b4 i h1 hi
     ·have hik:i=k.toNat:=by omega
      refine⟨x,by rw[hik,hx],ho,fun k' hk' => ?_⟩
      have:=b5 k' (by simpa using hk')
      exact⟨this.1,by omega,fun ha=>by simpa using this.2.2 ha⟩
    ·cases e
  ·cases e
theorem Zx {f:List ab} {n:Nat} {k s:Int} {h:Nat} (e:fG f n k=some (s,h)):1≤h:=by
 cases n with
 | zero=>cases e
 | succ n =>
  simp only[fG] at e
  split at e
  ·rename_i h0
   split at e
   ·cases e
   ·split at e
    ·exact bn_ (by omega) (sH (jt f n) _ _ _ _ _ h0 e).2.2.1
    ·cases e
  ·cases e
def ot (deep:Int):Option (Int×Nat)→Int
 | some (s,h)=>if deep+h≤12 then s else -1
 | none => -1
theorem fx {n:Int} (h0 : -1000000000≤n) (h1:n≤1000000000):IntKind.i64.wrap n=n:=wr (by omega) (by omega)
section
variable {f:List ab} (hl:f.length≤10000000) (hs : ∀ x∈f,x.2.2.1.2.2.1.size≤9223372036854775807)
include hl hs
theorem Hm {n:Nat} (ih : ∀(k deep:Int),0≤k→k < n→k < f.length→0≤deep→deep≤12→zS f k deep=some ((ot deep (fG f n k),()),())) {x:ab} {k:Int} (h0:0≤k) (hk:f[k.toNat]? = some x) (hkn:k≤n) (hkl:x.2.2.2.2.2.1.length≤10000000) :
  ∀(r suf:List Int) (cur:Int) (h:Nat) (deep:Int),x.2.2.2.2.2.1=r.reverse++suf→0≤cur→cur≤k→0≤deep→deep+h+1≤12→rh f k deep cur ((r.length:Int) - 1)=some ((ot deep (gk (fG f n) f (decide (x.1=6)) r cur h),()),())
 | [],suf,cur,h,deep,he,c0,c1,d0,d1=>by
  rw[En,aD (by simp)]
  simp only[gk,ot]
  rw[af_ (by omega)]
 | kid :: r,suf,cur,h,deep,he,c0,c1,d0,d1=>by
  have hkl2:k < (f.length:Int):=by
   have:=(ax_.1 hk).1
   omega
  have he':x.2.2.2.2.2.1=r.reverse++kid :: suf:=by rw[he]; simp
  have hlen:(((kid :: r).length:Int) - 1)=((r.reverse).length:Int):=by simp
  rw[En,aI (by rw[hlen]; exact nn _),bP h0 hk,hlen,bD he',fx (n:=cur - 1) (by omega) (by omega)]
  simp only[gk]
  by_cases e1:kid=cur - 1
  ·rw[ad_ (by simp[e1])]
   by_cases e2:kid < 0
   ·rw[aI e2,ad_ (by omega)]
    rfl
   ·rw[aD e2]
    have hkd:kid < (f.length:Int):=by omega
    obtain⟨y,hy⟩ : ∃ y,f[kid.toNat]? = some y:=⟨f[kid.toNat]'(by omega),as_ _⟩
    rw[bP (by omega) hy]
    have har:nG f kid=decide (y.1=3):=by
     unfold nG
     rw[ao_,hy]
     rfl
    have go:((zS f kid (ha_ hb_ (deep+1))).bind fun z1=>if decide (z1.1.1 < 0)=true then some ((-1,()),()) else rh f k deep z1.1.1 (ha_ hb_ (((r.reverse).length:Int) - 1)))=some ((ot deep ((fG f n kid).bind fun p=>gk (fG f n) f (decide (x.1=6)) r p.1 (max h p.2)),()),()):=by
     have hlr:(r.reverse).length≤10000000:=by
      rw[he',ae_] at hkl
      omega
     rw[fx (by omega) (by omega),fx (by omega) (by omega),ih kid (deep+1) (by omega) (by omega) hkd (by omega) (by omega),ab_]
     cases hc:fG f n kid with
     | none=>rfl
     | some p =>
      obtain⟨t,ht⟩:=p
      have ha:=jt f n _ _ _ hc
      by_cases hd:deep+1+ht≤12
      ·have er:ot (deep+1) (some (t,ht))=t:=af_ hd
       simp only[er,ab_]
       rw[aD (by omega),gs_,Hm ih h0 hk hkn hkl r (kid :: suf) t (max h ht) deep he' (by omega) (by omega) d0 (by omega)]
      ·have er:ot (deep+1) (some (t,ht)) = -1:=ad_ hd
       simp only[er,ab_]
       rw[aI (by decide)]
       cases hq:gk (fG f n) f (decide (x.1=6)) r t (max h ht) with
       | none=>rfl
       | some q =>
        obtain⟨s',h'⟩:=q
        have:=(sH (jt f n) _ _ _ _ _ (by omega) hq).2.2.1
        simp only[ot]
        rw[ad_ (by omega)]
    by_cases e3:y.1=3
    ·rw[af_ (by simp[e3]),bP h0 hk]
     by_cases e4:x.1=6
     ·rw[ad_ (by simp[e4]),af_ ⟨e1,by omega,fun _=>by simp[e4]⟩]
      exact go
     ·rw[af_ (by simp[e4]),ad_ (by rw[har]; simp[e3,e4])]
      rfl
    ·rw[ad_ (by simp[e3]),af_ ⟨e1,by omega,fun h=>by rw[har] at h; simp[e3] at h⟩]
     exact go
  ·rw[af_ (by simpa using e1),ad_ (fun h=>e1 h.1)]
   rfl
theorem NR : ∀(n:Nat) (k deep:Int),0≤k→k < n→k < f.length→0≤deep→deep≤12→(∀ x∈f,x.2.2.2.2.2.1.length≤10000000)→zS f k deep=some ((ot deep (fG f n k),()),())
 | 0,k,deep,h0,h1,_,_,_,_=>by omega
 | n+1,k,deep,h0,h1,h2,d0,d1,hkl=>by
  obtain⟨x,hx⟩ : ∃ y,f[k.toNat]? = some y:=⟨f[k.toNat]'(by omega),as_ _⟩
  have hm:x∈f:=cg_ hx
  rw[XA,aD (by omega)]
  by_cases hd:deep≥12
  ·rw[aI hd]
   cases hc:fG f (n+1) k with
   | none=>rfl
   | some p =>
    obtain⟨s,h⟩:=p
    have:=Zx hc
    simp only[ot]
    rw[ad_ (by omega)]
  ·have:=hkl x hm
   rw[aD hd,bP h0 hx,Hl (hs x hm),ab_,bP h0 hx,fx (by omega) (by omega)]
   simp only[fG,af_ h0,hx]
   cases ho:dF x with
   | false=>rfl
   | true =>
    simp only[bc_,aj_,aw_,ba_]
    have:=Hm hl hs (n:=n) (fun k deep a b c d e=>NR n k deep a b c d e hkl) h0 hx (by omega) this x.2.2.2.2.2.1.reverse [] k 0 deep (by simp) h0 (cj_ _) d0 (by omega)
    rw[gs_] at this
    exact this
def IW:Option (Int×Nat)→Int
 | some (s,_)=>s
 | none => -1
theorem CL {n:Nat} (A : ∀(i:Nat) (x:ab),f[i]? = some x→lq f i x) (ih : ∀(k:Int),0≤k→k < n→k < f.length→yh f k=some ((IW (fG f n k),()),())) {x:ab} {k:Int} (h0:0≤k) (hk:f[k.toNat]? = some x) (hkn:k≤n) (hkl:x.2.2.2.2.2.1.length≤10000000) :
  ∀(r suf:List Int) (cur:Int) (h:Nat),x.2.2.2.2.2.1=r.reverse++suf→0≤cur→cur≤k→tF f k (cur - 1) ((r.length:Int) - 1)=some ((IW (gk (fG f n) f (decide (x.1=6)) r cur h),()),())
 | [],suf,cur,h,he,c0,c1=>by
  have hkl2:k < (f.length:Int):=by
   have:=(ax_.1 hk).1
   omega
  rw[A5,aD (by simp),fx (by omega) (by omega)]
  simp only[gk,IW]
  congr 3
  omega
 | kid :: r,suf,cur,h,he,c0,c1=>by
  have hkl2:k < (f.length:Int):=by
   have:=(ax_.1 hk).1
   omega
  have he':x.2.2.2.2.2.1=r.reverse++kid :: suf:=by rw[he]; simp
  have hlen:(((kid :: r).length:Int) - 1)=((r.reverse).length:Int):=by simp
  have hmem:kid∈x.2.2.2.2.2.1:=by rw[he']; simp
  have hst:=(A _ _ hk).2 kid hmem
  rw[A5,aI (by rw[hlen]; exact nn _)]
  simp only[gk]
  by_cases e0:cur - 1 < 0
  ·rw[aI e0,ad_ (by omega)]
   rfl
  ·rw[aD e0,bP h0 hk,hlen,bD he']
   by_cases e1:kid=cur - 1
   ·have hkd:kid < (f.length:Int):=by omega
    have hlr:(r.reverse).length≤10000000:=by
     rw[he',ae_] at hkl
     omega
    rw[ad_ (by simp[e1]),af_ ⟨e1,hst.1,fun ha=>by simpa using hst.2.2 ha⟩,←e1,ih kid hst.1 (by omega) hkd,ab_,fx (n:=(r.reverse.length:Int) - 1) (by omega) (by omega)]
    cases hc:fG f n kid with
    | none=>rfl
    | some p =>
     obtain⟨t,ht⟩:=p
     have ha:=jt f n _ _ _ hc
     have er:IW (some (t,ht))=t:=rfl
     simp only[er,ab_]
     rw[aD (by omega),fx (n:=t - 1) (by omega) (by omega),gs_,CL A ih h0 hk hkn hkl r (kid :: suf) t (max h ht) he' (by omega) (by omega)]
   ·rw[af_ (by simpa using e1),ad_ (fun h=>e1 h.1)]
    rfl
theorem Hn (A : ∀(i:Nat) (x:ab),f[i]? = some x→lq f i x) (hkl : ∀ x∈f,x.2.2.2.2.2.1.length≤10000000) : ∀(n:Nat) (k:Int),0≤k→k < n→k < f.length→yh f k=some ((IW (fG f n k),()),())
 | 0,k,h0,h1,_=>by omega
 | n+1,k,h0,h1,h2=>by
  obtain⟨x,hx⟩ : ∃ y,f[k.toNat]? = some y:=⟨f[k.toNat]'(by omega),as_ _⟩
  have hm:x∈f:=cg_ hx
  have hk:=hkl x hm
  rw[SZ,bP h0 hx,fx (n:=k - 1) (by omega) (by omega),fx (by omega) (by omega)]
  simp only[fG,af_ h0,hx,(A _ _ hx).1,ba_]
  have:=CL hl hs (n:=n) A (Hn A hkl n) h0 hx (by omega) hk x.2.2.2.2.2.1.reverse [] k 0 (by simp) h0 (cj_ _)
  rw[gs_] at this
  exact this
def nt (c:Int→Option (Int×Nat)):List Int→Nat
 | []=>0
 | k :: l=>max (((c k).map (·.2)).getD 0) (nt c l)
omit hl hs in
theorem Ft (c:Int→Option (Int×Nat)) (k:Int) : ∀ l,nt c (l++[k])=max (nt c l) (((c k).map (·.2)).getD 0)
 | []=>by simp[nt]
 | y :: l=>by
  simp only[List.cons_append,nt,Ft c k l]
  omega
omit hl hs in
theorem Rm (c:Int→Option (Int×Nat)) : ∀ l,nt c l.reverse=nt c l
 | []=>rfl
 | y :: l=>by
  rw[List.reverse_cons,Ft,Rm c l]
  simp only[nt]
  omega
omit hl hs in
theorem Ku {c:Int→Option (Int×Nat)} {call:Bool} : ∀(l:List Int) (cur:Int) (h:Nat) (s:Int) (h':Nat),gk c f call l cur h=some (s,h')→h'=max h (nt c l)+1 ∧ ∀ k∈l,∃ p,c k=some p
 | [],cur,h,s,h',e=>by
  simp only[gk,bg_,fm_] at e
  exact⟨by simp only[nt]; omega,fun k hk=>by cases hk⟩
 | kid :: l,cur,h,s,h',e=>by
  simp only[gk] at e
  split at e
  ·rw[am_] at e
   obtain⟨⟨t,ht⟩,e1,e2⟩:=e
   obtain⟨b1,b2⟩:=Ku l t (max h ht) s h' e2
   refine⟨?_,fun k hk => ?_⟩
   ·simp only[nt,e1,du_,cw_]
    omega
   ·rcases bb_.1 hk with rfl | hk
    ·exact⟨_,e1⟩
    ·exact b2 k hk
  ·cases e
theorem CM {n:Nat} {c:Int→Option (Int×Nat)} (ih : ∀(k:Int) (s:Int) (h:Nat),k < n→c k=some (s,h)→yi f k=some (((h:Int),()),())) {x:ab} {k:Int} (h0:0≤k) (hk:f[k.toNat]? = some x) (hkn:k≤n) (hkl:x.2.2.2.2.2.1.length≤10000000) (hall : ∀ k'∈x.2.2.2.2.2.1,(∃ p,c k'=some p)∧k' < k) (hb:nt c x.2.2.2.2.2.1≤10000000) :
  ∀(ys pre:List Int),x.2.2.2.2.2.1=pre++ys→tG f k (nt c pre:Int) (pre.length:Int)=some ((((nt c x.2.2.2.2.2.1+1:Nat):Int),()),())
 | [],pre,he=>by
  have:pre=x.2.2.2.2.2.1:=by rw[he]; simp
  rw[A6,bP h0 hk,aD (bj he),this,fx (by omega) (by omega)]
  rfl
 | y :: ys,pre,he=>by
  obtain⟨⟨⟨s,h⟩,hc⟩,hlt⟩:=hall y (by rw[he]; simp)
  rw[A6,bP h0 hk,aI (bA he),bP h0 hk,bD he,ih y s h (by omega) hc,ab_,aK he (by omega)]
  have:(if((nt c pre:Nat):Int) < (h:Int) then(h:Int) else((nt c pre:Nat):Int))=(nt c (pre++[y]):Int):=by
   rw[Ft,hc]
   simp only[du_,cw_]
   split <;> omega
  rw[this]
  exact CM ih h0 hk hkn hkl hall hb ys _ (aB he)
theorem Ar (hkl : ∀ x∈f,x.2.2.2.2.2.1.length≤10000000) : ∀(n:Nat) (k s:Int) (h:Nat),fG f n k=some (s,h)→n≤10000000→h≤n∧yi f k=some (((h:Int),()),())
 | 0,_,_,_,e,_=>by cases e
 | n+1,k,s,h,e,hn=>by
  have hall:=jt f _ _ _ _ e
  simp only[fG] at e
  split at e
  ·rename_i h0
   split at e
   ·cases e
   ·rename_i x hx
    split at e
    ·have hm:x∈f:=cg_ hx
     obtain⟨b1,b2⟩:=Ku _ _ _ _ _ e
     have hst:=sH (jt f n) _ _ _ _ _ h0 e
     have hhm:nt (fG f n) x.2.2.2.2.2.1≤n:=by
      have : ∀ l:List Int,nt (fG f n) l≤n:=by
       intro l
       induction l with
       | nil=>exact dd_ _
       | cons y l ih =>
        simp only[nt]
        cases hc:fG f n y with
        | none=>simpa using ih
        | some p =>
         have:=(Ar hkl n y p.1 p.2 hc (by omega)).1
         simp only[du_,cw_]
         omega
      exact this _
     rw[Rm] at b1
     refine⟨by omega,?_⟩
     rw[S0]
     have hk2 : ∀ k'∈x.2.2.2.2.2.1,(∃ p,fG f n k'=some p)∧k' < k:=fun k' hk'=>⟨b2 k' (by simpa using hk'),(hst.2.2.2.2 k' (by simpa using hk')).2.1⟩
     have:=CM hl hs (n:=k.toNat) (c:=fG f n) (fun k' s' h' _ hc=>(Ar hkl n k' s' h' hc (by omega)).2) h0 hx (by omega) (hkl x hm) hk2 (by omega) x.2.2.2.2.2.1 [] rfl
     rw[b1]
     have hz:max 0 (nt (fG f n) x.2.2.2.2.2.1)=nt (fG f n) x.2.2.2.2.2.1:=by omega
     rw[hz]
     exact this
    ·cases e
  ·cases e
end
def vl (f:List ab):Bool:=match fG f f.length ((f.length:Int) - 1) with
 | some (s,h)=>decide (s=0) && (!nG f ((f.length:Int) - 1) && decide ((h:Int)≤12))
 | none=>false
def fg (f:List ab):Bool:=cq (f.length:Int) 1 60 && vl f
theorem kV {f:List ab} (h:fg f=true) (i:Nat) (x:ab) (hx:f[i]? = some x):lq f i x:=by
 unfold fg vl at h
 simp only[ah_] at h
 obtain⟨h1,h2⟩:=h
 have h1:=bC.1 h1
 cases hc:fG f f.length ((f.length:Int) - 1) with
 | none=>rw[hc] at h2; cases h2
 | some p =>
  obtain⟨s,d⟩:=p
  rw[hc] at h2
  simp only[ah_,ai_] at h2
  have hl:=(ax_.1 hx).1
  obtain⟨y,hy,hs⟩:=(jt f _ _ _ _ hc).2.2 i (by omega) (by omega)
  rw[hx] at hy
  rw[cb_ hy]
  exact hs
section
variable {f:List ab} (hl:f.length≤10000000) (hs : ∀ x∈f,x.2.2.1.2.2.1.size≤9223372036854775807) (hkl : ∀ x∈f,x.2.2.2.2.2.1.length≤10000000)
include hl hs hkl
theorem ou:tB f=some ((fg f,()),()):=by
 rw[LC]
 unfold fg
 simp only[gj,ab_]
 cases hb:cq (f.length:Int) 1 60 with
 | false=>rfl
 | true =>
  have hb:=bC.1 hb
  obtain⟨x,hx⟩ : ∃ y,f[((f.length:Int) - 1).toNat]? = some y:=⟨f[((f.length:Int) - 1).toNat]'(by omega),as_ _⟩
  have har:nG f ((f.length:Int) - 1)=decide (x.1=3):=by
   unfold nG
   rw[ao_,hx]
   rfl
  have hfr:=NR hl hs f.length ((f.length:Int) - 1) 0 (by omega) (by omega) (by omega) (by decide) (by decide) hkl
  simp only[ba_]
  rw[fx (by omega) (by omega),bP (by omega) hx,hfr]
  unfold vl
  rw[har]
  cases hc:fG f f.length ((f.length:Int) - 1) with
  | none=>by_cases h3:x.1=3 <;> simp[h3,ot]
  | some p =>
   obtain⟨s,h⟩:=p
   have hp:=(jt f _ _ _ _ hc).1
   by_cases h3:x.1=3
   ·simp[h3]
   ·by_cases h4:(h:Int)≤12
    ·simp[h3,ot,h4,oQ]
    ·simp[h3,ot,h4]
theorem wO {x:ab} {i:Nat} (hi:f[i]? = some x) (hil:i≤10000000) : ∀(ys pre:List Int),x.2.2.2.2.2.1=pre++ys →
  li f (i:Int) (pre.length:Int)=if(ys.all fun k=>cq k 0 ((i:Int) - 1) && (!nG f k || decide (x.1=6)))=true then eO f ((i+1:Nat):Int) else some ((false,()),())
 | [],pre,he=>by
  rw[vh,bP (nn _) (by simpa using hi),aD (bj he),fx (by omega) (by omega)]
  simp
 | y :: ys,pre,he=>by
  have hm:x∈f:=cg_ hi
  have:=hkl x hm
  rw[vh,bP (nn _) (by simpa using hi),aI (bA he),bP (nn _) (by simpa using hi),bD he,jR,ab_,fx (n:=(i:Int) - 1) (by omega) (by omega),aK he (by omega)]
  have ih:=wO hi hil ys _ (aB he)
  have hlt:=(ax_.1 hi).1
  cases hy:cq y 0 ((i:Int) - 1) with
  | false=>simp[hy]
  | true =>
   have hy2:=bC.1 hy
   obtain⟨z,hz⟩ : ∃ z,f[y.toNat]? = some z:=⟨f[y.toNat]'(by omega),as_ _⟩
   have har:nG f y=decide (z.1=3):=by
    unfold nG
    rw[ao_,hz]
    rfl
   simp only[bc_,aj_,aw_]
   rw[bP (by omega) hz]
   by_cases h3:z.1=3
   ·rw[af_ (by simp[h3]),bP (nn _) (by simpa using hi)]
    by_cases h6:x.1=6
    ·rw[ad_ (by simp[h6]),ih]
     simp[hy,har,h6]
    ·rw[af_ (by simp[h6])]
     simp[hy,har,h3,h6]
   ·rw[ad_ (by simp[h3]),ih]
    simp[hy,har,h3]
def ne (f:List ab) (i:Nat):Bool:=match f[i]? with
 | some x=>dF x && x.2.2.2.2.2.1.all fun k=>cq k 0 ((i:Int) - 1) && (!nG f k || decide (x.1=6))
 | none=>true
omit hl hs hkl in
theorem Eu {i:Nat} {x:ab} (hx:f[i]? = some x):ne f i=true↔lq f i x:=by
 unfold ne lq
 rw[hx]
 simp only[ah_,ck_,bC,cx_,Bool.not_eq_true',ai_]
 constructor
 ·rintro⟨h1,h2⟩
  refine⟨h1,fun k hk => ?_⟩
  obtain⟨⟨a,b⟩,c⟩:=h2 k hk
  refine⟨a,by omega,fun ha => ?_⟩
  rcases c with c | c
  ·rw[c] at ha
   cases ha
  ·exact c
 ·rintro⟨h1,h2⟩
  refine⟨h1,fun k hk => ?_⟩
  obtain⟨a,b,c⟩:=h2 k hk
  refine⟨⟨a,by omega⟩,?_⟩
  cases ha:nG f k with
  | true=>exact .inr (c ha)
  | false=>exact .inl rfl
theorem Ho (hne:1≤f.length) (A : ∀(i:Nat) (x:ab),f[i]? = some x→lq f i x):eO f (f.length:Int)=some ((vl f,()),()):=by
 obtain⟨x,hx⟩ : ∃ y,f[((f.length:Int) - 1).toNat]? = some y:=⟨f[((f.length:Int) - 1).toNat]'(by omega),as_ _⟩
 have har:nG f ((f.length:Int) - 1)=decide (x.1=3):=by
  unfold nG
  rw[ao_,hx]
  rfl
 rw[ve,aD (Int.lt_irrefl _),fx (by omega) (by omega),Hn hl hs A hkl f.length _ (by omega) (by omega) (by omega),ab_,bP (by omega) hx]
 unfold vl
 rw[har]
 cases hc:fG f f.length ((f.length:Int) - 1) with
 | none=>rfl
 | some p =>
  obtain⟨s,h⟩:=p
  have er:IW (some (s,h))=s:=rfl
  simp only[er]
  by_cases h0:s=0
  ·by_cases h3:x.1=3
   ·simp[h0,h3]
   ·rw[af_ (by simp[h0]),af_ (by simp[h3]),(Ar hl hs hkl _ _ _ _ hc hl).2]
    simp[h0,h3]
  ·rw[ad_ (by simp[h0])]
   simp[h0]
theorem Hp {i:Nat} (hi:i < f.length):eO f (i:Int)=if ne f i=true then eO f ((i+1:Nat):Int) else some ((false,()),()):=by
 obtain⟨x,hx⟩ : ∃ y,f[i]? = some y:=⟨f[i],as_ _⟩
 have hm:x∈f:=cg_ hx
 rw[ve,aI (by omega),bP (nn _) (by simpa using hx),CK (hs x hm),ab_]
 have es:ne f i=(dF x && x.2.2.2.2.2.1.all fun k=>cq k 0 ((i:Int) - 1) && (!nG f k || decide (x.1=6))):=by
  unfold ne
  rw[hx]
 rw[es]
 cases ho:dF x with
 | false=>simp
 | true =>
  have:=wO hl hs hkl hx (by omega) x.2.2.2.2.2.1 [] rfl
  simp only[bc_,aj_,aw_,bv_]
  exact this
open Classical in
theorem vm : ∀(n i:Nat),i+n=f.length→eO f (i:Int)=if(∀ j,i≤j→j < f.length→ne f j=true) then eO f (f.length:Int) else some ((false,()),())
 | 0,i,h=>by
  have:i=f.length:=by omega
  rw[this,af_ (fun j h1 h2=>by omega)]
 | n+1,i,h=>by
  rw[Hp hl hs hkl (by omega),vm n (i+1) (by omega)]
  by_cases h1:ne f i=true
  ·rw[af_ h1]
   by_cases h2 : ∀ j,i+1≤j→j < f.length→ne f j=true
   ·rw[af_ h2,af_ (fun j a b=>by
     by_cases hj:j=i
     ·rw[hj]; exact h1
     ·exact h2 j (by omega) b)]
   ·rw[ad_ h2,ad_ (fun h3=>h2 fun j a b=>h3 j (by omega) b)]
  ·rw[ad_ h1,ad_ (fun h3=>h1 (h3 i (aq_ _) (by omega)))]
theorem lr:mY f=some ((fg f,()),()):=by
 rw[Lr]
 by_cases h1:(f.length:Int) < 1
 ·rw[aI h1]
  have:cq (f.length:Int) 1 60=false:=by simp[cq]; omega
  simp[fg,this]
 ·rw[aD h1]
  by_cases h2:(f.length:Int) > 60
  ·rw[aI h2]
   have:cq (f.length:Int) 1 60=false:=by simp[cq]; omega
   simp[fg,this]
  ·have hb:cq (f.length:Int) 1 60=true:=bC.2 (by omega)
   rw[aD h2,show(0:Int)=((0:Nat):Int) from rfl,vm hl hs hkl f.length 0 (by omega)]
   by_cases A : ∀ j,0≤j→j < f.length→ne f j=true
   ·rw[af_ A,Ho hl hs hkl (by omega) fun i x hx=>(Eu hx).1 (A i (dd_ _) (ax_.1 hx).1)]
    simp[fg,hb]
   ·rw[ad_ A]
    have:fg f=false:=by
     cases ho:fg f with
     | false=>rfl
     | true =>
      refine absurd (fun j _ hj => ?_) A
      have hx:f[j]? = some f[j]:=as_ _
      exact(Eu hx).2 (kV ho j _ hx)
    rw[this]
end
abbrev ap:=List UInt8
abbrev lb (s:aa_):ap:=s.data.toList
abbrev ba (l:ap):aa_:=⟨l.toArray⟩
theorem dy (l:ap):lb (ba l)=l:=by simp
theorem ec (s:aa_):ba (lb s)=s:=by cases s; simp
theorem aQ (l:ap):(ba l).size=l.length:=by
 show(ba l).data.size=_
 simp
theorem iA (s:aa_):(lb s).length=s.size:=by
 rw[Array.length_toList]
 rfl
theorem Hq {a b:ap} (h:ba a=ba b):a=b:=by
 rw[←dy a,h,dy]
theorem abB {a b:ap}:(ba a=ba b)=(a=b):=propext ⟨Hq,fun h=>by rw[h]⟩
theorem TI (l:ap) (i j:Nat):(ba l).extract i j=ba ((l.take j).drop i):=by
 apply yS
 simp[ByteArray.data_extract,List.extract_eq_take_drop,List.drop_take]
theorem lu (a b:ap):ba a++ba b=ba (a++b):=by
 apply yS
 simp
theorem dG {a b:ap}:(ag_ (ba a) == ag_ (ba b))=decide (a=b):=by
 rw[so,bw_,ai_,ai_,abB]
theorem VI (l:ap):nr (ba l)=l.map fun b=>(b.toNat:Int):=by simp[nr]
theorem lv {β:Type} {l pre ys:ap} {y:UInt8} {f:Int→Option β} (h:l=pre++y :: ys):eE (ba l) (pre.length:Int) f=f (y.toNat:Int):=by
 have:=Ct (β:=β) (s:=ba l) (pre:=pre.map fun b=>(b.toNat:Int)) (ys:=ys.map fun b=>(b.toNat:Int)) (y:=(y.toNat:Int)) (f:=f) (by rw[VI,h]; simp)
 rw[List.length_map] at this
 exact this
theorem qv {β:Type} {y:UInt8} {ys:ap} {f:Int→Option β}:eE (ba (y :: ys)) 0 f=f (y.toNat:Int):=lv (pre:=[]) rfl
theorem Hr {β:Type} {l:ap} {n:Nat} {f:aa_→Option β} (h:n≤l.length):DY (ba l) (n:Int) f=f (ba (l.take n)):=by
 rw[aaH (nn _) (by rw[aQ]; omega),TI]
 simp
theorem fW {β:Type} {l:ap} {n:Nat} {f:aa_→Option β} (h:n≤l.length):ji (ba l) (n:Int) f=f (ba (l.drop n)):=by
 rw[Vh (nn _) (by rw[aQ]; omega),TI,aQ]
 simp
theorem yU {β:Type} {l:ap} {i j:Nat} {f:aa_→Option β} (h:i≤j) (hj:j≤l.length):vU (ba l) (i:Int) (j:Int) f=f (ba ((l.take j).drop i)):=by
 rw[aaI (nn _) (by omega) (by rw[aQ]; omega),TI]
 simp
theorem bN {β:Type} {a b:ap} {f:aa_→Option β} (h:a.length+b.length≤9223372036854775807):cats (ba a) (ba b) f=f (ba (a++b)):=by
 rw[ga (by rw[aQ,aQ]; exact h),lu]
theorem xr (s p:ap) (hs:s.length≤9223372036854775807):eZ (ba s) (ba p)=some ((p.isPrefixOf s,()),()):=by
 rw[u4,aQ,aQ]
 by_cases h:p.length≤s.length
 ·rw[aI (by omega),Hr h,dG]
  congr 3
  rw[bw_,ai_,eh_,List.prefix_iff_eq_take]
  exact eq_comm
 ·rw[aD (by omega)]
  congr 3
  symm
  rw[Bool.eq_false_iff]
  intro hp
  exact h (eh_.1 hp).length_le
theorem sI (s p:ap) (hs:s.length≤9223372036854775807):en (ba s) (ba p)=some ((p.isPrefixOf s,()),()):=by
 rw[Ac,xr s p hs]
 rfl
theorem sJ (s p:ap) (hs:s.length≤9223372036854775807):cx (ba s) (ba p)=some ((ba (if p.isPrefixOf s=true then s.drop p.length else s),p.isPrefixOf s,()),()):=by
 rw[Ab,u5,xr s p hs]
 simp only[ab_]
 cases hp:p.isPrefixOf s with
 | false=>rfl
 | true =>
  have:=(eh_.1 hp).length_le
  simp only[bc_,aj_,aw_,ba_,aQ]
  rw[fW this]
  rfl
theorem xt (s c:ap) (hc:uB (ba c)=true):iL (ba s) (ba c)=some ((ba (s.dropWhile (c.contains ·)),()),()):=by
 rw[Bo]
 show(if uB (ba c)=true then some (((⟨(Lib.trimLeftS (lb (ba s)) (lb (ba c))).toArray⟩:aa_),()),()) else none)=_
 rw[af_ hc,dy,dy]
 rfl
theorem CN {α:Type} (p:α→Bool) (l:List α):l.take (l.length - (l.dropWhile p).length)=l.takeWhile p∧l.drop (l.length - (l.dropWhile p).length)=l.dropWhile p∧(l.dropWhile p).length≤l.length:=by
 have h:=List.takeWhile_append_dropWhile (p:=p) (l:=l)
 have hl:(l.takeWhile p).length+(l.dropWhile p).length=l.length:=by rw[←ae_,h]
 have e:l.length - (l.dropWhile p).length=(l.takeWhile p).length:=by omega
 refine⟨?_,?_,by omega⟩
 ·rw[e]
  have:=List.take_left' (l₁:=l.takeWhile p) (l₂:=l.dropWhile p) rfl
  rw[h] at this
  exact this
 ·rw[e]
  have:=List.drop_left' (l₁:=l.takeWhile p) (l₂:=l.dropWhile p) rfl
  rw[h] at this
  exact this
theorem gQ (c:UInt8) (l:ap) (a:UInt8):([a]:ap).isPrefixOf (c :: l)=decide (c=a):=by
 show(a == c && ([]:ap).isPrefixOf l)=_
 rw[show([]:ap).isPrefixOf l=true by cases l <;> rfl,fd_,bw_,bt_,ai_]
 exact eq_comm
theorem Fu (c:UInt8) (t:ap):([c]:ap).isPrefixOf t=decide (t.head? = some c):=by
 cases t with
 | nil=>rfl
 | cons y t=>rw[gQ]; simp
theorem Fv (y:UInt8) (t:ap) (a c:UInt8):([a,c]:ap).isPrefixOf (y :: t)=(decide (y=a) && decide (t.head? = some c)):=by
 show(a == y && ([c]:ap).isPrefixOf t)=_
 rw[Fu]
 congr 1
 rw[bw_,bt_,ai_]
 exact eq_comm
theorem Fw (y c:UInt8) {n:Int} (hn:(c.toNat:Int)=n):((y.toNat:Int) == n)=decide (y=c):=by
 rw[bw_,bt_,ai_,←hn]
 constructor
 ·intro e
  apply UInt8.toNat_inj.1
  omega
 ·intro e
  rw[e]
theorem CO {p:UInt8→Prop} [DecidablePred p] (h : ∀ n:Fin 256,p (UInt8.ofNat n.val)) (c:UInt8):p c:=by
 have:=h ⟨c.toNat,c.toNat_lt⟩
 simpa using this
def fH (c:UInt8):Bool:=decide (65≤c.toNat) && decide (c.toNat≤90)
def dw (c:UInt8):Bool:=decide (48≤c.toNat) && decide (c.toNat≤57)
def bL (a:Nat) (l:ap):Nat:=l.foldl (fun a c=>a*10+(c.toNat - 48)) a
theorem CP (a:Nat) (l:ap) (c:UInt8):bL a (l++[c])=bL a l*10+(c.toNat - 48):=by simp[bL]
theorem Hs {u:Nat} (h:u < 10):az_ u=[UInt8.ofNat (48+u)]:=Lib.decDigits_one h
theorem NS {u:Nat} (h : ¬u < 10):az_ u=az_ (u / 10)++[UInt8.ofNat (48+u % 10)]:=by
 rw[az_,dif_neg h]
theorem TJ {x:Nat} (h:x < 10):(UInt8.ofNat (48+x)).toNat=48+x:=by
 rw[UInt8.toNat_ofNat']
 omega
theorem VJ {m x:ap} (h:m≠[]):(m++x).head? = m.head? := by
 cases m with
 | nil=>exact absurd rfl h
 | cons a m=>rfl
def kp (l:ap):Bool:=l.all dw && decide (1≤l.length) && (decide (l.length=1) || !decide (l.head? = some 48))
theorem NT : ∀(n u:Nat),u≤n→bL 0 (az_ u)=u∧kp (az_ u)=true∧(10≤u→2≤(az_ u).length)∧(1≤u→(az_ u).head? ≠ some 48)
 | n,u,hn=>by
  by_cases h:u < 10
  ·rw[Hs h]
   have e:=TJ h
   refine⟨by simp[bL]; omega,?_,fun h2=>by omega,fun h1 h2 => ?_⟩
   ·simp only[kp,dw,do_,List.all_nil,e]
    simp
    omega
   ·simp only[db_,bg_] at h2
    rw[h2] at e
    have:(48:UInt8).toNat=48:=rfl
    omega
  ·cases n with
   | zero=>omega
   | succ n =>
    obtain⟨h1,h2,h3,h4⟩:=NT n (u / 10) (by omega)
    rw[NS h,CP,h1,TJ (Nat.mod_lt _ (by decide))]
    have h4:=h4 (by omega)
    simp only[kp,ah_,ai_] at h2
    obtain⟨⟨k1,k2⟩,k3⟩:=h2
    have hne:az_ (u / 10)≠[]:=by
     intro e
     rw[e] at k2
     simp at k2
    have hh:(az_ (u / 10)++[UInt8.ofNat (48+u % 10)]).head? ≠ some 48:=by
     rw[VJ hne]
     exact h4
    refine⟨by omega,?_,fun _=>by rw[ae_,ac_]; omega,fun _=>hh⟩
    simp only[kp,ee_,k1,do_,List.all_nil,dw,TJ (Nat.mod_lt u (show 0 < 10 by decide)),ah_,cx_,ai_]
    refine⟨⟨by simp; omega,by simp⟩,.inr (by simpa using hh)⟩
theorem rl (u:Nat):bL 0 (az_ u)=u:=(NT u u (aq_ _)).1
theorem vn (u:Nat):kp (az_ u)=true:=(NT u u (aq_ _)).2.1
theorem Rn {c:UInt8} (h:dw c=true):UInt8.ofNat (48+(c.toNat - 48))=c:=by
 simp only[dw,ah_,ai_] at h
 have:48+(c.toNat - 48)=c.toNat:=by omega
 rw[this]
 simp
theorem Ro : ∀(l:ap),kp l=true→az_ (bL 0 l)=l∧(l.head? ≠ some 48→1≤bL 0 l):=by
 intro l
 induction hn:l.length using Nat.strongRecOn generalizing l with
 | ind n ih =>
  intro h
  rcases List.eq_nil_or_concat l with rfl | ⟨m,c,rfl⟩
  ·simp[kp] at h
  ·rw[List.concat_eq_append] at *
   simp only[kp,ah_,cx_,ai_,ee_,do_,List.all_nil,fd_] at h
   obtain⟨⟨⟨k1,k0⟩,k2⟩,k3⟩:=h
   have kd:48≤c.toNat∧c.toNat≤57:=by simpa[dw] using k0
   rw[CP]
   by_cases hm:m=[]
   ·subst hm
    have e:bL 0 []*10+(c.toNat - 48)=c.toNat - 48:=by simp[bL]
    rw[e,Hs (by omega),Rn k0]
    refine⟨rfl,fun hh => ?_⟩
    have:c.toNat≠48:=by
     intro e
     apply hh
     simp only[List.nil_append,db_]
     congr 1
     exact UInt8.toNat_inj.1 e
    omega
   ·have hm1:1≤m.length:=List.length_pos_iff.2 hm
    have hh:(m++[c]).head? = m.head? := VJ hm
    have k4:m.head? ≠ some 48:=by
     rcases k3 with k3 | k3
     ·rw[ae_,ac_] at k3
      omega
     ·rw[hh] at k3
      simpa using k3
    obtain⟨i1,i2⟩:=ih m.length (by rw[←hn,ae_,ac_]; omega) m rfl (by
     simp only[kp,ah_,cx_,ai_]
     exact⟨⟨k1,hm1⟩,.inr (by simpa using k4)⟩)
    have i2:=i2 k4
    refine⟨?_,fun _=>by omega⟩
    rw[NS (by omega)]
    have e1:(bL 0 m*10+(c.toNat - 48)) / 10=bL 0 m:=by omega
    have e2:(bL 0 m*10+(c.toNat - 48)) % 10=c.toNat - 48:=by omega
    rw[e1,e2,i1,Rn k0]
theorem oS (u:Nat):cY (u:Int)=ba (az_ u):=py u
theorem DB : ∀(l:ap) (a:Nat),l.all dw=true→bL a l < (a+1)*10 ^ l.length
 | [],a,_=>by simp[bL]
 | c :: l,a,h=>by
  simp only[do_,ah_] at h
  have kd:48≤c.toNat∧c.toNat≤57:=by simpa[dw] using h.1
  have:=DB l (a*10+(c.toNat - 48)) h.2
  show bL (a*10+(c.toNat - 48)) l < _
  refine Nat.lt_of_lt_of_le this ?_
  rw[ak_,Nat.pow_succ]
  have:a*10+(c.toNat - 48)+1≤(a+1)*10:=by omega
  calc (a*10+(c.toNat - 48)+1)*10 ^ l.length≤((a+1)*10)*10 ^ l.length:=Nat.mul_le_mul_right _ this
   _=(a+1)*(10 ^ l.length*10):=by rw[Nat.mul_assoc,Nat.mul_comm 10]
inductive dV {α:Type} (L:α→List α):α→α→Prop
 | one {i j:α} (h:j∈L i):dV L i j
 | more {i j k:α} (h:dV L i j) (m:k∈L j):dV L i k
theorem dV.trans {α:Type} {L:α→List α} {i j k:α} (h:dV L i j) (m:dV L j k):dV L i k:=by
 induction m with
 | one e=>exact .more h e
 | more _ e ih=>exact .more ih e
theorem dV.head {α:Type} {L:α→List α} {i j k:α} (h:j∈L i) (m:dV L j k):dV L i k:=dV.trans (.one h) m
theorem dV.inN {α:Type} {L:α→List α} {N:List α} (hN : ∀ i,∀ k∈L i,k∈N) {i j:α} (h:dV L i j):j∈N:=by
 cases h with
 | one e=>exact hN _ _ e
 | more _ e=>exact hN _ _ e
theorem dV.closed {α:Type} {L:α→List α} {Q:α→Prop} {i:α} (h0 : ∀ k∈L i,Q k) (hc : ∀ j,Q j → ∀ k∈L j,Q k) {j:α} (h:dV L i j):Q j:=by
 induction h with
 | one e=>exact h0 _ e
 | more _ e ih=>exact hc _ ih _ e
section
variable {α:Type} {L:α→List α} {N:List α}
open Classical in
noncomputable def xu (L:α→List α) (N:List α) (i:α):Nat:=(N.filter fun j=>decide (dV L i j)).length
open Classical in
theorem NU (hN : ∀ i,∀ k∈L i,k∈N) {i k:α} (hk:k∈L i) (hc : ¬dV L k k):xu L N k < xu L N i:=by
 unfold xu
 refine BM (fun y _ hy => ?_) ⟨k,hN i k hk,bd_ (.one hk),be_ hc⟩
 exact bd_ (dV.head hk (of_decide_eq_true hy))
theorem XU (hN : ∀ i,∀ k∈L i,k∈N) {l:List α} (hl:l≠[]) (hc : ∀ i∈l,¬dV L i i) : ∃ i∈l,∀ k∈L i,k ∉ l:=by
 have key : ∀(n:Nat) (i:α),i∈l→xu L N i≤n → ∃ i∈l,∀ k∈L i,k ∉ l:=by
  intro n
  induction n with
  | zero =>
   intro i hi hn
   refine⟨i,hi,fun k hk hkl => ?_⟩
   have:=NU hN hk (hc k hkl)
   omega
  | succ n ih =>
   intro i hi hn
   by_cases h : ∀ k∈L i,k ∉ l
   ·exact⟨i,hi,h⟩
   ·have : ∃ k,k∈L i∧k∈l:=by
     refine Classical.byContradiction fun hh=>h fun k hk hkl=>hh ⟨k,hk,hkl⟩
    obtain⟨k,hk,hkl⟩:=this
    have:=NU hN hk (hc k hkl)
    exact ih k hkl (by omega)
 obtain⟨i,hi⟩:=List.exists_mem_of_ne_nil l hl
 exact key _ i hi (aq_ _)
end
def jE (a b:ah):Bool:=decide (a.2.1 < b.2.1) || (decide (a.2.1=b.2.1) && decide (a.1 < b.1))
theorem CQ (a b:ah):oI a b=some ((jE a b,()),()):=by
 rw[El]
 unfold jE
 by_cases h1:a.2.1 < b.2.1
 ·simp[h1]
 ·by_cases h2:a.2.1=b.2.1 <;> simp[h1,h2]
theorem NV {a b c:ah} (h:jE a b=true) (k:jE b c=true):jE a c=true:=by
 simp only[jE,cx_,ah_,ai_] at *
 omega
def s9:Option ah→List ah→Bool
 | _,[]=>true
 | none,b :: l=>s9 (some b) l
 | some a,b :: l=>jE a b && s9 (some b) l
theorem Kv {o:Option ah} {b:ah} {l:List ah}:s9 o (b :: l)=((match o with | some a=>jE a b | none=>true) && s9 (some b) l):=by
 cases o <;> simp[s9]
theorem Rp : ∀ {l:List ah} {a:ah},s9 (some a) l=true→(∀ b∈l,jE a b=true)∧l.Pairwise fun a b=>jE a b=true
 | [],a,_=>⟨fun b hb=>(by cases hb),List.Pairwise.nil⟩
 | b :: l,a,h=>by
  simp only[s9,ah_] at h
  obtain⟨h1,h2⟩:=Rp h.2
  refine⟨fun c hc => ?_,bq_.2 ⟨h1,h2⟩⟩
  rcases bb_.1 hc with rfl | hc
  ·exact h.1
  ·exact NV h.1 (h1 c hc)
theorem VK {l:List ah} (h:s9 none l=true):l.Pairwise fun a b=>jE a b=true:=by
 cases l with
 | nil=>exact List.Pairwise.nil
 | cons a l =>
  obtain⟨h1,h2⟩:=Rp (l:=l) (a:=a) h
  exact bq_.2 ⟨h1,h2⟩
def kW (l:List aj):Bool:=decide ((l.length:Int)≤120) && ((l.all fun c=>bT c.1 && aA c.2.1) && s9 none (l.map (·.1)))
theorem Zy {α:Type} {pre:List α} (h:pre≠[]) : ∃ q p,pre=q++[p]:=⟨pre.dropLast,pre.getLast h,(List.dropLast_concat_getLast h).symm⟩
section
variable {xs:List aj} (hl:xs.length≤10000000) (hs : ∀ c∈xs,c.2.1.2.2.1.size≤9223372036854775807)
include hl hs
theorem yV : ∀(ys pre:List aj),xs=pre++ys→mm xs (pre.length:Int)=some (((ys.all fun c=>bT c.1 && aA c.2.1) && s9 (pre.getLast?.map (·.1)) (ys.map (·.1)),()),())
 | [],pre,he=>by
  rw[wy,aD (bj he)]
  simp[s9]
 | y :: ys,pre,he=>by
  have ih:=yV ys _ (aB he)
  have hy:=hs y (by rw[he]; simp)
  rw[wy,aI (bA he)]
  simp only[bD he,kE,fi hy,ab_,aK he (by omega),ih]
  simp only[do_,cs_,Kv,fb_,es_,gk_,du_]
  cases bT y.1 with
  | false=>simp
  | true =>
   cases aA y.2.1 with
   | false=>simp
   | true =>
    by_cases hp:pre=[]
    ·subst hp
     simp
    ·obtain⟨q,p,rfl⟩:=Zy hp
     have hq:xs=q++p :: (y :: ys):=by rw[he]; simp
     have hw:(((q++[p]).length:Nat):Int) - 1=(q.length:Int):=by simp
     have h0:((q++[p]).length:Int) > 0:=by rw[ae_,ac_]; omega
     simp only[hw,bd_ h0,ba_,bc_,aj_,aw_]
     rw[fx (by omega) (by have:=bA hq; omega),bD hq,CQ,ab_]
     simp only[fb_,es_,gk_,du_,bv_]
     cases jE p.1 y.1 <;> simp
theorem NW:Cm xs=some ((kW xs,()),()):=by
 rw[NG]
 unfold kW
 by_cases h:(xs.length:Int) > 120
 ·rw[aI h,be_ (by omega)]
  rfl
 ·rw[aD h,bd_ (by omega)]
  have:=yV hl hs xs [] rfl
  simpa using this
end
theorem TK {a b:ah}:(bk ak a b=true)=(a=b):=propext (km rfl)
def fM:List aj→ah→ac
 | [],_=>v0
 | c :: l,r=>if c.1=r then c.2.1 else fM l r
section
variable {xs:List aj} (hl:xs.length≤10000000)
include hl
theorem Ht {r:ah} {a b:Int} {s:aa_} : ∀(ys pre:List aj),xs=pre++ys→zX xs (pre.length:Int) r.1 r.2.1 a b s=some ((fM ys r,()),())
 | [],pre,he=>by
  rw[Eo,aD (bj he)]
  rfl
 | y :: ys,pre,he=>by
  rw[Eo,aI (bA he),bD he,bD he,aK he (by omega),Ht ys _ (aB he)]
  show(if bk ak y.1 r=true then _ else _)=_
  rw[fM]
  by_cases h:y.1=r
  ·rw[af_ (by rw[TK]; exact h),af_ h]
  ·rw[ad_ (by rw[TK]; exact h),ad_ h]
theorem NX (r:ah):LX xs r=some ((fM xs r,()),()):=by
 rw[XH]
 exact Ht hl xs [] rfl
theorem CR {r:ah} {a b:Int} {s:aa_} : ∀(ys pre:List aj),xs=pre++ys→tI xs (xs.length:Int) (pre.length:Int) r.1 r.2.1 a b s=some ((fM ys r,()),())
 | [],pre,he=>by
  rw[A8,aD (bj he)]
  rfl
 | y :: ys,pre,he=>by
  rw[A8,aI (bA he),bD he,aK he (by omega),CR ys _ (aB he)]
  show(if bk ak y.1 r=true then _ else _)=_
  rw[fM]
  by_cases h:y.1=r
  ·rw[af_ (by rw[TK]; exact h),af_ h]
  ·rw[ad_ (by rw[TK]; exact h),ad_ h]
theorem Hu (r:ah):Ik xs r=some ((fM xs r,()),()):=by
 rw[Ta]
 exact CR hl xs [] rfl
end
theorem NY:aA v0=true:=by decide
theorem Au : ∀ {l:List aj} {r:ah},(∀ c∈l,aA c.2.1=true)→aA (fM l r)=true
 | [],r,_=>NY
 | c :: l,r,h=>by
  unfold fM
  split
  ·exact h c (eq_ ..)
  ·exact Au fun d hd=>h d (ar_ _ hd)
theorem mz {l:List aj} (h:kW l=true) : ∀ c∈l,aA c.2.1=true:=by
 unfold kW at h
 simp only[ah_,ck_] at h
 exact fun c hc=>(h.2.1 c hc).2
theorem nf {n:Int} (h0:1≤n) (h1:n≤5):aA (vE n)=true:=by
 unfold aA vE
 simp[cq]
 omega
theorem yW {n:Int} (h0 : -1000000000000000≤n) (h1:n≤1000000000000000):aA (vN n)=true:=by
 unfold aA vN
 simp[cq]
 omega
theorem Rq (b:Bool):aA (vB b)=true:=by cases b <;> decide
theorem TL (n:Int):aA (bnd n)=true:=by
 unfold bnd
 split
 ·have:=bC.1 ‹_›
  exact yW this.1 this.2
 ·exact nf (by decide) (by decide)
theorem ng (v:ac):aA (g7 v)=true:=by
 unfold g7
 split
 ·split
  ·assumption
  ·exact nf (by decide) (by decide)
 ·exact nf (by decide) (by decide)
theorem LY {f:Int→Int→ac} (hf : ∀ x y,aA (f x y)=true) (a b:ac):aA (qP f a b)=true:=by
 unfold qP
 split
 ·split
  ·exact hf _ _
  ·exact ng _
 ·exact ng _
theorem DC (a b:ac):aA (jS a b)=true:=LY (fun _ _=>TL _) a b
theorem TM (a b:ac):aA (Al a b)=true:=LY (fun _ _=>TL _) a b
theorem YX (a b:ac):aA (IU a b)=true:=LY (fun x y=>by
 unfold TB
 split
 ·exact yW (by omega) (by omega)
 ·exact nf (by decide) (by decide)) a b
theorem YY (a b:ac):aA (IQ a b)=true:=LY (fun x y=>by
 split
 ·exact nf (by decide) (by decide)
 ·exact TL _) a b
theorem YZ (a:ac):aA (Fq a)=true:=TM _ _
theorem VL : ∀(n u:Nat),u≤n → ∀ b∈az_ u,48≤b.toNat∧b.toNat≤57:=by
 intro n
 induction n with
 | zero =>
  intro u h b hb
  rw[az_,dif_pos (by omega)] at hb
  rw[bh_.1 hb]
  have:u=0:=by omega
  subst this
  decide
 | succ n ih =>
  intro u h b hb
  rw[az_] at hb
  split at hb
  ·rename_i h10
   rw[bh_.1 hb]
   simp only[UInt8.toNat_ofNat']
   omega
  ·rcases List.mem_append.1 hb with hb | hb
   ·exact ih (u / 10) (by omega) b hb
   ·rw[bh_.1 hb]
    simp only[UInt8.toNat_ofNat']
    omega
theorem aaM (l:List UInt8):nr ⟨l.toArray⟩=l.map fun b=>(b.toNat:Int):=by simp[nr]
theorem TN (n:Int):plain (cY n)=true:=by
 have hu : ∀ u:Nat,plain ⟨(az_ u).toArray⟩=true:=by
  intro u
  unfold plain
  rw[aaM,ck_]
  intro x hx
  obtain⟨b,hb,rfl⟩:=List.mem_map.1 hx
  have:=VL u u (aq_ _) b hb
  unfold sG
  simp
  omega
 by_cases h:n < 0
 ·rw[wM h,show -n=((-n).toNat:Int) by omega,py]
  have:=hu (-n).toNat
  unfold plain at this ⊢
  rw[GV,ee_,this]
  decide
 ·rw[show n=(n.toNat:Int) by omega,py]
  exact hu _
theorem Kw {a b:aa_}:plain (a++b)=(plain a && plain b):=by
 unfold plain
 rw[GV,ee_]
theorem TO (n:Int):plain (df n)=true:=by
 have h : ∀ i:Nat,i < 6→plain (XQ.getD i eS)=true:=by decide
 unfold df
 by_cases hn:n.toNat < 6
 ·exact h _ hn
 ·rw[ao_,cd_ (by show 6≤n.toNat; omega)]
  decide
theorem NZ {v:ac} (h:aA v=true) (k:v.1=2):v.2.1=0∧plain v.2.2.1=true∧v.2.2.1.size≤200:=by
 unfold aA at h
 rw[af_ k] at h
 simp only[ah_,ai_] at h
 exact⟨h.1,h.2.1,by omega⟩
theorem Hv {v:ac} (h:aA v=true):plain (bO v)=true:=by
 unfold bO
 split
 ·exact TN _
 ·split
  ·rw[Kw,(NZ h ‹_›).2.1]
   decide
  ·split
   ·unfold wN
    split <;> decide
   ·split
    ·exact TO _
    ·decide
theorem Kx {v:ac} (h:aA v=true):plain (pz v)=true:=by
 unfold pz
 split
 ·exact(NZ h ‹_›).2.1
 ·exact Hv h
theorem okT {s:aa_} (h:plain s=true) (k:s.size≤200):aA (vT s)=true:=by
 unfold aA vT
 simp[h]
 omega
theorem VM (a b:ac):aA (Ap a b)=true:=by
 unfold Ap
 split
 ·split
  ·split
   ·exact nf (by decide) (by decide)
   ·rename_i h1 h2 h3
    refine okT ?_ (by rw[size_append]; omega)
    rw[Kw,Kx (ud h1),Kx (ud h2)]
    rfl
  ·exact ng _
 ·exact ng _
theorem VN (op:Int) (a b:ac):aA (Aq op a b)=true:=by
 unfold Aq
 split
 ·split
  ·split
   ·split
    ·assumption
    ·split
     ·assumption
     ·exact Rq _
   ·exact nf (by decide) (by decide)
  ·exact nf (by decide) (by decide)
 ·exact nf (by decide) (by decide)
def ey (v:ac):Bool:=aA v && (decide (v.1=0) || decide (v.1=1) || decide (v.1=3))
theorem lE {v:ac} (h:v.2.2.1.size≤9223372036854775807):oL v=some ((decide (v.2.1≠0),ey v,()),()):=by
 rw[Qe]
 unfold ey
 simp only[fj h,ab_,bt_]
 have hb:(v.2.1 != 0)=decide (v.2.1≠0):=by by_cases h:v.2.1=0 <;> simp[h]
 rw[hb]
 cases aA v
 ·rfl
 ·by_cases h0:v.1=0
  ·simp[h0]
  ·by_cases h1:v.1=1
   ·simp[h1]
   ·simp[h0,h1,oQ]
theorem tS {v:ac} (h:aA v=true):pp v=some ((if ey v=true then decide (v.2.1≠0) else false,if ey v=true then v0 else g7 v,()),()):=by
 rw[Th]
 unfold ey g7
 simp only[dA,ab_,bt_,h,ba_,bv_]
 rcases tQ h with k | k | k | k | k
 ·have:v.2.1=0:=by
   unfold aA at h
   rw[ad_ (by omega),af_ k] at h
   simp only[ah_,ai_] at h
   exact h.2
  simp[k,this,v0]
 ·have hb:(v.2.1 != 0)=decide (v.2.1≠0):=by by_cases h:v.2.1=0 <;> simp[h]
  simp[k,hb,v0]
 ·simp[k]
 ·have:=yT h k
  have:v.2.1=0∨v.2.1=1:=by omega
  rcases this with h1 | h1 <;> simp[k,h1,v0]
 ·simp[k]
def CS (a:Bool):List ac→Bool→Bool→ac
 | [],all,one=>vB (if a=true then all else one)
 | v :: l,all,one=>if ey v=true then CS a l (all && decide (v.2.1≠0)) (one || decide (v.2.1≠0)) else g7 v
def vo:List ac→ac→ac
 | [],s=>s
 | v :: l,s=>if v.1=4 then v else if v.1=1 then(if(jS s v).1=4 then jS s v else vo l (jS s v)) else vo l s
def nH (op:Int):List ac→Int→Int→Int→ac
 | [],l,m,c=>if op=2 then vN l else if op=3 then vN m else vN c
 | v :: t,l,m,c=>if v.1=4∧op≠4 then v else if v.1=1 then(if c=0 then nH op t v.2.1 v.2.1 1 else nH op t (if v.2.1 < l then v.2.1 else l) (if m < v.2.1 then v.2.1 else m) (c+1)) else nH op t l m c
theorem N0 (a:Bool) (v:ac) (l:List ac) (all one:Bool):CS a (v :: l) all one=if ey v=true then CS a l (all && decide (v.2.1≠0)) (one || decide (v.2.1≠0)) else g7 v:=rfl
theorem Ky (v:ac) (l:List ac) (s:ac):vo (v :: l) s=if v.1=4 then v else if v.1=1 then(if(jS s v).1=4 then jS s v else vo l (jS s v)) else vo l s:=rfl
theorem Kz (op:Int) (v:ac) (t:List ac) (l m c:Int):nH op (v :: t) l m c=if v.1=4∧op≠4 then v else if v.1=1 then(if c=0 then nH op t v.2.1 v.2.1 1 else nH op t (if v.2.1 < l then v.2.1 else l) (if m < v.2.1 then v.2.1 else m) (c+1)) else nH op t l m c:=rfl
section
variable {xs:List ac} (hl:xs.length≤100000000) (hv : ∀ v∈xs,aA v=true)
include hl hv
theorem yX {op:Int} {p q:Int} {s:aa_} : ∀(ys pre:List ac) (all one:Bool),xs=pre++ys→iV op all one xs (xs.length:Int) (pre.length:Int) p q s=some ((CS (decide (op=6)) ys all one,()),())
 | [],pre,all,one,he=>by
  rw[wv,aD (bj he)]
  by_cases h:op=6 <;> simp[h,mw,CS]
 | y :: ys,pre,all,one,he=>by
  have hy:=hv y (by rw[he]; simp)
  rw[wv,aI (bA he),bD he,lE (ca hy),ab_,aK he (by omega)]
  simp only[yX ys _ _ _ (aB he),eU (ca hy),ab_]
  rw[N0]
  cases ey y
  ·simp
  ·cases all <;> cases one <;> simp
theorem CT (op:Int):kC op xs=some ((CS (decide (op=6)) xs true false,()),()):=by
 rw[NB]
 exact yX hl hv xs [] true false rfl
theorem vp {p q:Int} {u:aa_} : ∀(ys pre:List ac) (s:ac),xs=pre++ys→aA s=true→s.1≠4→qh xs (xs.length:Int) (pre.length:Int) p q u s.1 s.2.1 s.2.2.1=some ((vo ys s,()),())
 | [],pre,s,he,hs,h4=>by
  rw[A9,aD (bj he)]
  rfl
 | y :: ys,pre,s,he,hs,h4=>by
  have hy:=hv y (by rw[he]; simp)
  rw[A9,aI (bA he),bD he,aK he (by omega)]
  show(if(y.1 == 4)=true then _ else if(y.1 == 1)=true then(M1 s y).bind _ else _)=_
  rw[IT (ca hs) (ca hy),ab_]
  rw[Ky]
  by_cases k4:y.1=4
  ·simp[k4]
  ·by_cases k1:y.1=1
   ·by_cases ka:(jS s y).1=4
    ·simp[k1,ka]
    ·simp only[k1,ka,bt_,ba_,aw_]
     rw[ad_ (by decide),ad_ (by decide)]
     exact vp ys _ (jS s y) (aB he) (DC _ _) ka
   ·simp only[k4,k1,h4,bt_,aw_]
    exact vp ys _ s (aB he) hs h4
theorem Hw:pn xs=some ((vo xs (vN 0),()),()):=by
 rw[Td,ik,ab_]
 exact vp hl hv xs [] (vN 0) rfl (yW (by decide) (by decide)) (by decide)
theorem yY {op:Int} {p q:Int} {u:aa_} : ∀(ys pre:List ac) (l m c:Int),xs=pre++ys→0≤c→c≤pre.length→fu op l m c xs (xs.length:Int) (pre.length:Int) p q u=some ((nH op ys l m c,()),())
 | [],pre,l,m,c,he,h0,h1=>by
  rw[ww,aD (bj he)]
  unfold nH
  by_cases h2:op=2
  ·simp[h2,ik]
  ·by_cases h3:op=3 <;> simp[h2,h3,ik]
 | y :: ys,pre,l,m,c,he,h0,h1=>by
  have hlt:=bA he
  have ih:=fun l m c h0 h1=>yY (op:=op) (p:=p) (q:=q) (u:=u) ys _ l m c (aB he) h0 h1
  rw[ww,aI hlt,bD he,aK he (by omega)]
  rw[wr (n:=c+1) (by omega) (by omega)]
  have hp:((pre++[y]).length:Int)=pre.length+1:=by simp
  generalize ((pre++[y]).length:Int)=w at ih hp ⊢
  rw[Kz]
  simp only[bt_,bne_iff_ne,ne_eq]
  by_cases hc:c=0
  ·subst hc
   have e1:=ih y.2.1 y.2.1 1 (by decide) (by omega)
   have e2:=ih l m 0 (by decide) (by omega)
   by_cases k4:y.1=4
   ·by_cases o4:op=4
    ·simp[k4,o4]
     rw[←o4]
     exact e2
    ·simp[k4,o4]
   ·by_cases k1:y.1=1
    ·simp[k1]
     exact e1
    ·simp[k4,k1]
     exact e2
  ·have e1:=ih (if y.2.1 < l then y.2.1 else l) (if m < y.2.1 then y.2.1 else m) (c+1) (by omega) (by omega)
   have e2:=ih l m c h0 (by omega)
   by_cases k4:y.1=4
   ·by_cases o4:op=4
    ·simp[k4,o4]
     rw[←o4]
     exact e2
    ·simp[k4,o4]
   ·by_cases k1:y.1=1
    ·simp[k1,hc]
     exact e1
    ·simp[k4,k1]
     exact e2
theorem CU (op:Int):kD op xs=some ((nH op xs 0 0 0,()),()):=by
 rw[NC]
 exact yY hl hv xs [] 0 0 0 rfl (by decide) (by decide)
theorem N3 {op:Int} (ho:op=6∨op=7) {p q c k n:Int} {u t:aa_} : ∀(ys pre:List ac) (all one:Bool),xs=pre++ys→bB op xs c all one (pre.length:Int) p q u k n t=some ((CS (decide (op=6)) ys all one,()),())
 | [],pre,all,one,he=>by
  rw[js,aD (bj he)]
  rcases ho with rfl | rfl <;> simp[tN,CS]
 | y :: ys,pre,all,one,he=>by
  have hy:=hv y (by rw[he]; simp)
  have ih:=fun all one=>N3 ho (p:=p) (q:=q) (c:=c) (k:=k) (n:=n) (u:=u) (t:=t) ys _ all one (aB he)
  rw[js,aI (bA he),bD he,tS hy,ab_,aK he (by omega)]
  simp only[ih]
  rw[N0]
  rcases ho with rfl | rfl
  ·cases it:ey y
   ·have:=cI y
    simp[this]
   ·cases all <;> cases one <;> simp[v0]
  ·cases it:ey y
   ·have:=cI y
    simp[this]
   ·cases all <;> cases one <;> simp[v0]
theorem Fx {p q:Int} {u:aa_} : ∀(ys pre:List ac) (s:ac) (c:Int),xs=pre++ys→aA s=true→0≤c→c≤pre.length→bB 1 xs c true false (pre.length:Int) p q u s.1 s.2.1 s.2.2.1=some ((vo ys s,()),())
 | [],pre,s,c,he,hs,c0,c1=>by
  rw[js,aD (bj he)]
  rfl
 | y :: ys,pre,s,c,he,hs,c0,c1=>by
  have hlt:=bA he
  have hy:=hv y (by rw[he]; simp)
  rw[js,aI hlt,bD he,aK he (by omega),wr (n:=c+1) (by omega) (by omega)]
  have hsy:Fe (s.1,s.2.1,s.2.2.1,()) y=some ((jS s y,()),()):=IR (ca hs) (ca hy)
  have e2:=Fx (p:=p) (q:=q) (u:=u) ys _ s c (aB he) hs c0 (by rw[ae_,ac_]; omega)
  have e1:=Fx (p:=p) (q:=q) (u:=u) ys _ (jS s y) (c+1) (aB he) (DC _ _) (by omega) (by rw[ae_,ac_]; omega)
  simp only[hsy,ab_,e1,e2]
  rw[Ky]
  by_cases k4:y.1=4
  ·simp[k4]
  ·by_cases k1:y.1=1
   ·by_cases ka:(jS s y).1=4 <;> simp[k1,ka]
   ·simp[k4,k1]
theorem XV {v:ac} (h:aA v=true) (k:v.1=1):v=vN v.2.1:=by
 unfold aA at h
 rw[ad_ (by omega)] at h
 simp only[ah_,ai_] at h
 obtain⟨a,b,c,⟨⟩⟩:=v
 simp only at h k
 rw[k,h.1]
 rfl
set_option maxHeartbeats 2000000 in
theorem N4 {op:Int} (ho:op=2∨op=3∨op=4) {p q:Int} {u:aa_} : ∀(ys pre:List ac) (l m c n:Int),xs=pre++ys→0≤c→c≤pre.length→c≤1000000000→(op=2→n=l)→(op=3→n=m)→bB op xs c true false (pre.length:Int) p q u 1 n eS=some ((nH op ys l m c,()),())
 | [],pre,l,m,c,n,he,h0,h1,h9,n2,n3=>by
  rw[js,aD (bj he)]
  unfold nH
  rcases ho with rfl | rfl | rfl
  ·rw[n2 rfl]
   rfl
  ·rw[n3 rfl]
   rfl
  ·have:bnd c=vN c:=by
    unfold bnd
    rw[af_ (bC.2 (by omega))]
   simp[kF,this]
 | y :: ys,pre,l,m,c,n,he,h0,h1,h9,n2,n3=>by
  have hlt:=bA he
  have hy:=hv y (by rw[he]; simp)
  have hp:((pre++[y]).length:Int)=pre.length+1:=by simp
  have ih:=fun l m c n h0 h1 h9 n2 n3=>N4 ho (p:=p) (q:=q) (u:=u) ys _ l m c n (aB he) h0 h1 h9 n2 n3
  rw[js,aI hlt,bD he,aK he (by omega),wr (n:=c+1) (by omega) (by omega)]
  generalize ((pre++[y]).length:Int)=w at ih hp ⊢
  rw[Kz]
  simp only[bt_,bne_iff_ne,ne_eq]
  by_cases k4:y.1=4
  ·rcases ho with rfl | rfl | rfl
   ·simp[k4]
   ·simp[k4]
   ·simp[k4]
    exact ih l m c n h0 (by omega) h9 (by simp) (by simp)
  ·by_cases k1:y.1=1
   ·have hyv:=XV hl hv hy k1
    have hyS:y.2.2.1=eS:=by rw[hyv]; rfl
    simp only[k1,hyS,not_true,aw_,ba_]
    by_cases hc:c=0
    ·subst hc
     rcases ho with rfl | rfl | rfl
     ·simp
      exact ih y.2.1 y.2.1 1 y.2.1 (by decide) (by omega) (by decide) (fun _=>rfl) (by simp)
     ·simp
      exact ih y.2.1 y.2.1 1 y.2.1 (by decide) (by omega) (by decide) (by simp) (fun _=>rfl)
     ·simp
      exact ih y.2.1 y.2.1 1 y.2.1 (by decide) (by omega) (by decide) (by simp) (by simp)
    ·have hc1 : ¬c+1=1:=by omega
     rcases ho with rfl | rfl | rfl
     ·have:=n2 rfl
      subst this
      by_cases hlt2:y.2.1 < n
      ·simp[hc,hc1,hlt2]
       exact ih _ _ (c+1) y.2.1 (by omega) (by omega) (by omega) (fun _=>rfl) (by simp)
      ·simp[hc,hc1,hlt2]
       exact ih _ _ (c+1) n (by omega) (by omega) (by omega) (fun _=>rfl) (by simp)
     ·have:=n3 rfl
      subst this
      by_cases hlt2:n < y.2.1
      ·simp[hc,hc1,hlt2]
       exact ih _ _ (c+1) y.2.1 (by omega) (by omega) (by omega) (by simp) (fun _=>rfl)
      ·simp[hc,hc1,hlt2]
       exact ih _ _ (c+1) n (by omega) (by omega) (by omega) (by simp) (fun _=>rfl)
     ·simp[hc,hc1]
      exact ih _ _ (c+1) n (by omega) (by omega) (by omega) (by simp) (by simp)
   ·rcases ho with rfl | rfl | rfl <;> simp[k4,k1]
    ·exact ih l m c n h0 (by omega) h9 n2 (by simp)
    ·exact ih l m c n h0 (by omega) h9 (by simp) n3
    ·exact ih l m c n h0 (by omega) h9 (by simp) (by simp)
def Av (op:Int) (xs:List ac):ac:=if op=6∨op=7 then CS (decide (op=6)) xs true false else if op=1 then vo xs (vN 0) else nH op xs 0 0 0
theorem TP {op:Int} (ho:op=1∨op=2∨op=3∨op=4∨op=6∨op=7):Io op xs=some ((Av op xs,()),()):=by
 rw[Tl]
 unfold Av
 by_cases h6:op=6∨op=7
 ·rw[af_ h6]
  exact N3 hl hv h6 xs [] true false rfl
 ·rw[ad_ h6]
  by_cases h1:op=1
  ·subst h1
   exact Fx hl hv xs [] (vN 0) 0 rfl (yW (by decide) (by decide)) (by decide) (by decide)
  ·rw[ad_ h1]
   exact N4 hl hv (by omega) xs [] 0 0 0 0 rfl (by decide) (by decide) (by decide) (fun _=>rfl) (fun _=>rfl)
end
theorem VO {a:Bool} : ∀ {l:List ac} {p q:Bool},aA (CS a l p q)=true
 | [],p,q=>Rq _
 | v :: l,p,q=>by
  unfold CS
  split
  ·exact VO
  ·exact ng _
theorem IX : ∀ {l:List ac} {s:ac},(∀ v∈l,aA v=true)→aA s=true→aA (vo l s)=true
 | [],s,_,h=>h
 | v :: l,s,hv,h=>by
  unfold vo
  split
  ·exact hv v (eq_ ..)
  ·split
   ·split
    ·exact DC _ _
    ·exact IX (fun w hw=>hv w (ar_ _ hw)) (DC _ _)
   ·exact IX (fun w hw=>hv w (ar_ _ hw)) h
theorem DD {op:Int} : ∀ {t:List ac} {l m c:Int},(∀ v∈t,aA v=true)→(-1000000000000000≤l∧l≤1000000000000000)→(-1000000000000000≤m∧m≤1000000000000000)→(0≤c∧c+t.length≤1000000000000000)→aA (nH op t l m c)=true
 | [],l,m,c,hv,hl,hm,hc=>by
  unfold nH
  simp only[List.length_nil] at hc
  split
  ·exact yW hl.1 hl.2
  ·split
   ·exact yW hm.1 hm.2
   ·exact yW (by omega) (by omega)
 | v :: t,l,m,c,hv,hl,hm,hc=>by
  have hvv:=hv v (eq_ ..)
  have hvt:=fun w hw=>hv w (ar_ _ hw)
  simp only[ak_] at hc
  unfold nH
  split
  ·exact hvv
  ·split
   ·have:=rj hvv ‹_›
    split
    ·exact DD hvt this this (by omega)
    ·refine DD hvt ?_ ?_ (by omega)
     ·split <;> omega
     ·split <;> omega
   ·exact DD hvt hl hm (by omega)
theorem N5 {op:Int} {xs:List ac} (hv : ∀ v∈xs,aA v=true) (hl:xs.length≤100000000):aA (Av op xs)=true:=by
 unfold Av
 split
 ·exact VO
 ·split
  ·exact IX hv (yW (by decide) (by decide))
  ·exact DD hv (by decide) (by decide) (by omega)
end Go.Proofs.YthbkdfcmjmmpgaaGreatDoor.Abs
