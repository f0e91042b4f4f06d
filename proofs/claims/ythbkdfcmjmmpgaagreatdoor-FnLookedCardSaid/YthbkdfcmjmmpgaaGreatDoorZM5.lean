/- Values: products, texts, order. -/
import Derived.Test.YthbkdfcmjmmpgaaGreatDoorZM4
set_option linter.unusedVariables false
set_option linter.unusedSimpArgs false
set_option linter.unusedSectionVars false
open Bool renaming and_eq_true→ag_,and_true→er_,eq_iff_iff→bw_,false_eq_true→ak_,not_true→bc_,or_eq_true→cx_,true_and→bt_
open ByteArray renaming size→ay_,toList→ah_
open Go.IntKind renaming i64→hf_,wrap→he_
open Go.Lib renaming decDigits→az_
open Int renaming le_refl→co_,tdiv→dw_
open List renaming all_append→cr_,all_cons→cb_,all_eq_true→cl_,getD_eq_getElem?_getD→ao_,getElem?_eq_getElem→as_,getElem?_eq_none→cj_,getElem?_eq_some_iff→ax_,getLast?_append→ff_,getLast?_singleton→es_,head?_cons→dg_,isPrefixOf_iff_prefix→dt_,length_append→af_,length_cons→aj_,length_reverse→gw_,length_singleton→ad_,length→am_,map_cons→dc_,mem_cons_of_mem→ar_,mem_cons_self→ep_,mem_cons→bi_,mem_of_getElem?→cd_,mem_singleton→be_,pairwise_cons→ce_
open Nat renaming le_refl→aq_,le_trans→bq_,zero_le→di_
open Option renaming bind_eq_some_iff→al_,bind_some→ab_,getD_some→de_,map_some→dz_,some_or→gm_
open Option.some renaming injEq→bd_,inj→ch_
open Prod.mk renaming injEq→fh_
open _root_ renaming ByteArray→aa_,beq_iff_eq→bx_,decide_eq_false→bf_,decide_eq_true_eq→ai_,decide_eq_true→bb_,decide_true→ck_,if_false→av_,if_neg→ac_,if_pos→ae_,if_true→ba_
namespace Go.Proofs.YthbkdfcmjmmpgaaGreatDoor.Abs
open Go
def Ul (x y:Int):ac:=if(x*y).natAbs≤1000000000000000 then vN (x*y) else vE 4
def JB:=qY Ul
theorem AK {p q:Int} (hq:0 < q):dw_ 1000000000000000 q < p ↔ ¬p*q≤1000000000000000:=by
 rw[Int.tdiv_eq_ediv_of_nonneg (by decide),←Int.not_le,Int.le_ediv_iff_mul_le hq]
theorem abz {q:Int} (hq:0 < q):IntKind.i64.wrap (dw_ 1000000000000000 q)=dw_ 1000000000000000 q:=by
 have:=AJ (x:=1000000000000000) (y:=q) (by omega) (by omega)
 exact wr (by omega) (by omega)
theorem R7 {x y:Int} (h:(x*y).natAbs≤1000000000000000):bnd (he_ hf_ (x*y))=vN (x*y):=by
 rw[wr (by omega) (by omega)]
 unfold bnd
 rw[ae_ (bm.2 (by omega))]
theorem R8 (x y:Int):(x.natAbs:Int)*(y.natAbs:Int)=((x*y).natAbs:Int):=by rw[Int.natAbs_mul]; simp
section
variable {a b:ac} (ha:a.2.2.1.size≤9223372036854775807) (hb:b.2.2.1.size≤9223372036854775807)
include ha hb
theorem Wn:NT a b=some ((JB a b,()),()):=by
 rw[Wi]
 unfold JB qY
 simp only[wY ha hb,kX,dQ,ab_]
 cases ia:cW a
 ·have:=cT a
  simp[this]
 ·cases ib:cW b
  ·have:=cT b
   simp[this]
  ·have h1:=cF ia
   have h2:=cF ib
   generalize a.2.1=x at h1
   generalize b.2.1=y at h2
   unfold Ul
   by_cases hx:x=0
   ·simp[hx,v0,bnd,cu]
   by_cases hy:y=0
   ·simp[hx,hy,v0,bnd,cu]
   have hm:=R8 x y
   have w1:IntKind.i64.wrap (0 - x) = - x:=by rw[wr (by omega) (by omega)]; omega
   have w2:IntKind.i64.wrap (0 - y) = - y:=by rw[wr (by omega) (by omega)]; omega
   have fC : ∀ p q:Int,p=(x.natAbs:Int)→q=(y.natAbs:Int)→(nz q (if decide (p > IntKind.i64.wrap (dw_ 1000000000000000 q))=true then some ((vE 4,()),()) else some ((bnd (he_ hf_ (x*y)),()),())))=some ((if(x*y).natAbs≤1000000000000000 then vN (x*y) else vE 4,()),()):=by
    intro p q hp hq
    have hq0:0 < q:=by omega
    rw[Hs (by omega),abz hq0]
    by_cases hc:(x*y).natAbs≤1000000000000000
    ·rw[aE (by rw[gt_iff_lt,AK hq0,hp,hq,hm]; omega),ae_ hc,R7 hc]
    ·rw[aJ (by rw[gt_iff_lt,AK hq0,hp,hq,hm]; omega),ac_ hc]
   by_cases nx:x < 0 <;> by_cases ny:y < 0 <;> simp only[v0,hx,hy,nx,ny,pc,w1,w2,ba_,av_,ck_,decide_false,ak_,bne_self_eq_false,ab_] <;> refine fC _ _ ?_ ?_ <;> omega
theorem Lb:NR a b=some ((JB a b,()),()):=by
 rw[Wa,yR]
 unfold JB qY
 simp only[eP ha,eP hb,fd ha,fd hb,Q1,su,gJ,ab_]
 cases ia:cW a
 ·simp
 ·cases ib:cW b
  ·simp
  ·have h1:=cF ia
   have h2:=cF ib
   generalize a.2.1=x at h1
   generalize b.2.1=y at h2
   unfold Ul
   have hm:=R8 x y
   have w1:(if x < IntKind.i64.wrap (0 - x) then IntKind.i64.wrap (0 - x) else x)=(x.natAbs:Int):=by
    rw[wr (by omega) (by omega)]
    split <;> omega
   have w2:(if y < IntKind.i64.wrap (0 - y) then IntKind.i64.wrap (0 - y) else y)=(y.natAbs:Int):=by
    rw[wr (by omega) (by omega)]
    split <;> omega
   simp only[w1,w2,bc_,ak_,av_,ba_]
   by_cases hy:y=0
   ·simp[hy,bnd,cu,wr (n:=0) (by decide) (by decide)]
   ·have hq0:0 < (y.natAbs:Int):=by omega
    rw[ae_ (by simpa using hy),Hs (by omega),abz hq0]
    by_cases hc:(x*y).natAbs≤1000000000000000
    ·rw[aE (by rw[gt_iff_lt,AK hq0,hm]; omega),ae_ hc,R7 hc]
     rfl
    ·rw[aJ (by rw[gt_iff_lt,AK hq0,hm]; omega),ac_ hc]
     rfl
end
theorem E3 {a:ac} (ha:a.2.2.1.size≤9223372036854775807):Ar a=some ((FZ a,()),()):=by
 rw[Q0]
 unfold FZ AI qY
 have h0:cW v0=true:=by decide
 simp only[C4 ha,kX,ab_,h0,ba_]
 cases ia:cW a
 ·have:=cT a
  simp[this]
 ·have h1:=cF ia
  simp[v0,wr (n := -a.2.1) (by omega) (by omega)]
theorem E4 {a:ac} (ha:a.2.2.1.size≤9223372036854775807):FN a=some ((FZ a,()),()):=by
 rw[QT,show((0,0,({data := #[]}:aa_),()):ac)=v0 from rfl,F0 (by decide) ha]
 rfl
theorem wr8 {n:Int} (h0:0≤n) (h1:n≤255):IntKind.u8.wrap n=n:=by
 simp only[IntKind.wrap,IntKind.bits,IntKind.signed]
 simp
 omega
theorem HR : ∀(k u:Nat),u < 10 ^ (k+1)→(az_ u).length≤k+1
 | 0,u,h=>by
  have h:u < 10:=by simpa using h
  rw[az_,dif_pos h]
  simp
 | k+1,u,h=>by
  rw[az_]
  split
  ·simp
  ·have:=HR k (u / 10) (by rw[Nat.pow_succ] at h; exact Nat.div_lt_of_lt_mul (by omega))
   rw[af_]
   simp only[ad_]
   omega
theorem t8 {x:Nat} (h:x < 10):strOfNums ([IntKind.u8.wrap (he_ hf_ (48+(x:Int)))]:List Int)=⟨#[UInt8.ofNat (48+x)]⟩:=by
 rw[wr (by omega) (by omega),wr8 (by omega) (by omega)]
 unfold strOfNums
 simp only[dc_,List.map_nil]
 congr 3
theorem zm {a b:aa_} (h:a.data.toList=b.data.toList):a=b:=by
 cases a; cases b
 congr 1
 exact Array.toList_inj.1 h
theorem C5 : ∀(n u:Nat) (acc:aa_),u≤n→u≤9223372036854775807→acc.size+n≤9223372036854775806→sN (u:Int) acc=some ((⟨(az_ u).toArray⟩++acc,()),()):=by
 intro n
 induction n with
 | zero =>
  intro u acc h1 h2 h3
  have:u=0:=by omega
  subst this
  rw[vo,aE (by decide),show((0:Nat):Int)=((0:Nat):Int) from rfl,t8 (x:=0) (by decide),gj (by simp only[ay_]; simp; have:acc.data.size=acc.size:=rfl; omega)]
  rw[az_,dif_pos (by decide)]
 | succ n ih =>
  intro u acc h1 h2 h3
  rw[vo]
  have hs : ∀ c:UInt8,(⟨#[c]⟩:aa_).size=1:=fun _=>rfl
  by_cases h:u < 10
  ·rw[aE (by omega),t8 h,gj (by rw[hs]; omega)]
   rw[az_,dif_pos h]
  ·have e1:Int.tmod (u:Int) 10=((u % 10:Nat):Int):=by
    rw[Int.tmod_eq_emod_of_nonneg (by omega)]
    omega
   have e2:dw_ (u:Int) 10=((u / 10:Nat):Int):=by
    rw[Int.tdiv_eq_ediv_of_nonneg (by omega)]
    omega
   rw[aJ (by omega),e1,e2,t8 (Nat.mod_lt _ (by decide)),gj (by rw[hs]; omega),wr (by omega) (by omega),ih (u / 10) _ (by omega) (by omega) (by rw[size_append,hs]; omega)]
   conv=>rhs; rw[az_,dif_neg h]
   congr 3
   apply zm
   simp
theorem pE (u:Nat):di (u:Int)=⟨(az_ u).toArray⟩:=by
 unfold di Lib.itoa
 rw[ac_ (by omega)]
 simp
theorem wZ {n:Int} (h:n < 0):di n=⟨#[45]⟩++di (-n):=by
 unfold di Lib.itoa
 rw[ae_ h,ac_ (by omega)]
 apply zm
 simp
 congr 1
 omega
theorem JC {u:Nat} (h:u≤9223372036854775807):(⟨(az_ u).toArray⟩:aa_).size≤19:=by
 have:=HR 18 u (by omega)
 simpa[ay_] using this
theorem qy {n:Int} (h0 : -9223372036854775807≤n) (h1:n≤9223372036854775807):(di n).size≤20:=by
 by_cases h:n < 0
 ·rw[wZ h,size_append,show -n=((-n).toNat:Int) by omega,pE]
  have:=JC (u:=(-n).toNat) (by omega)
  have h1:(⟨#[45]⟩:aa_).size=1:=rfl
  omega
 ·rw[show n=(n.toNat:Int) by omega,pE]
  have:=JC (u:=n.toNat) (by omega)
  omega
theorem HS {u:Nat} (h:u≤9223372036854775807):cn (u:Int)=some ((di (u:Int),()),()):=by
 have h19:=JC h
 rw[La,aE (by omega),pE]
 have h2 : ∀ acc:aa_,acc.size=0→sN (u:Int) acc=some ((⟨(az_ u).toArray⟩++acc,()),()):=by
  intro acc ha
  by_cases hu:u≤9223372036854775806
  ·exact C5 u u acc (aq_ _) h (by omega)
  ·have hu:u=9223372036854775807:=by omega
   subst hu
   have hs : ∀ c:UInt8,(⟨#[c]⟩:aa_).size=1:=fun _=>rfl
   have e1:Int.tmod ((9223372036854775807:Nat):Int) 10=((7:Nat):Int):=by decide
   have e2:dw_ ((9223372036854775807:Nat):Int) 10=((922337203685477580:Nat):Int):=by decide
   rw[vo,aJ (by decide),e1,e2,t8 (by decide),gj (by rw[hs]; omega),wr (by omega) (by omega),C5 922337203685477580 _ _ (by omega) (by omega) (by rw[size_append,hs]; omega)]
   conv=>rhs; rw[az_,dif_neg (by decide)]
   congr 3
   apply zm
   simp
 rw[h2 _ rfl]
 congr 3
 apply zm
 simp
theorem C6 {n:Int} (h0 : -9223372036854775807≤n) (h1:n≤9223372036854775807):cn n=some ((di n,()),()):=by
 by_cases h:n < 0
 ·have hz:=qy (n := -n) (by omega) (by omega)
  have h45:(⟨#[45]⟩:aa_).size=1:=rfl
  rw[La,aJ h,wr (by omega) (by omega),show(0 - n:Int)=((-n).toNat:Int) by omega,HS (by omega),show(((-n).toNat:Nat):Int) = -n by omega]
  simp only[ab_]
  rw[gj (by omega),←wZ h]
 ·rw[show n=(n.toNat:Int) by omega]
  exact HS (by omega)
theorem xI {n:Int} (h0 : -9223372036854775808≤n) (h1:n≤9223372036854775807):ld n=some ((di n,()),()):=by
 rw[QK,AB]
 show(if(10:Int)=10∧_∧_ then _ else _:Option _).bind _=_
 rw[ae_ ⟨rfl,h0,h1⟩]
 rfl
def YC:List aa_:=[(⟨#[]⟩:aa_),(⟨#[35,68,73,86,33]⟩:aa_),(⟨#[35,84,89,80,69,33]⟩:aa_),(⟨#[35,82,69,70,33]⟩:aa_),(⟨#[35,79,86,69,82,33]⟩:aa_),(⟨#[35,67,89,67,76,69,33]⟩:aa_)]
def cX (n:Int):aa_:=YC.getD n.toNat eS
theorem ua {n:Int} (h0:0≤n) (h1:n≤5):nc n=some ((cX n,()),()):=by
 rw[TL,bO h0 (by show n < 6; omega)]
 rfl
theorem oE {n:Int} (h0:0≤n) (h1:n≤5):ir n=some ((cX n,()),()):=by
 rw[Ml,bO h0 (by show n < 6; omega)]
 rfl
def w5 (n:Int):aa_:=if n=1 then⟨#[84,82,85,69]⟩ else⟨#[70,65,76,83,69]⟩
theorem Um (n:Int):Jb n=some ((w5 n,()),()):=by
 rw[TO]
 unfold w5
 by_cases h:n=1 <;> simp[h]
def bG (v:ac):aa_:=if v.1=1 then di v.2.1 else if v.1=2 then(⟨#[39]⟩:aa_)++v.2.2.1 else if v.1=3 then w5 v.2.1 else if v.1=4 then cX v.2.1 else eS
theorem rs {v:ac} (h:az v=true) (k:v.1=1) : -1000000000000000≤v.2.1∧v.2.1≤1000000000000000:=by
 unfold az at h
 rw[ac_ (by omega),ac_ (by omega),ae_ k] at h
 simp only[ag_,ai_] at h
 exact bm.1 h.2
theorem zn {v:ac} (h:az v=true) (k:v.1=3):0≤v.2.1∧v.2.1≤1:=by
 unfold az at h
 rw[ac_ (by omega),ac_ (by omega),ac_ (by omega),ae_ k] at h
 simp only[ag_,ai_] at h
 exact bm.1 h.2
theorem ut {v:ac} (h:az v=true) (k:v.1=4):1≤v.2.1∧v.2.1≤5:=by
 unfold az at h
 rw[ac_ (by omega),ac_ (by omega),ac_ (by omega),ac_ (by omega),ae_ k] at h
 simp only[ag_,ai_] at h
 exact bm.1 h.2
theorem uc {v:ac} (h:az v=true):v.1=0∨v.1=1∨v.1=2∨v.1=3∨v.1=4:=by
 unfold az at h
 split at h
 ·omega
 ·simp only[ag_] at h
  have h:=h.2
  split at h
  ·omega
  ·split at h
   ·omega
   ·split at h
    ·omega
    ·split at h
     ·omega
     ·cases h
theorem Wo (n:Int):(cX n).size≤10:=by
 have h : ∀ i:Nat,i < 6→(YC.getD i eS).size≤10:=by decide
 unfold cX
 by_cases hn:n.toNat < 6
 ·exact h _ hn
 ·rw[ao_,cj_ (by show 6≤n.toNat; omega)]
  decide
theorem Lc {v:ac} (h:az v=true):(bG v).size≤201:=by
 have hs:=dV h
 unfold bG
 split
 ·have:=rs h ‹_›
  exact bq_ (qy (by omega) (by omega)) (by decide)
 ·split
  ·rw[size_append]
   have:(⟨#[39]⟩:aa_).size=1:=rfl
   omega
  ·split
   ·unfold w5
    split <;> decide
   ·split
    ·exact bq_ (Wo _) (by decide)
    ·decide
theorem Un {β:Type} {s:aa_} {f:aa_→Option β} (h:s.size≤9223372036854775806):cats (⟨#[39]⟩:aa_) s f=f ((⟨#[39]⟩:aa_)++s):=gj (by
 have:(⟨#[39]⟩:aa_).size=1:=rfl
 omega)
theorem eY {v:ac} (hs:v.2.2.1.size≤9223372036854775807):et v=some ((if az v=true then bG v else eS,()),()):=by
 rw[Mg,fA hs,ab_]
 unfold bG
 cases h:az v
 ·rfl
 ·have hz:=dV h
  simp only[bc_,ak_,av_,ba_,bx_]
  by_cases h1:v.1=1
  ·have:=rs h h1
   simp[h1,C6 (n:=v.2.1) (by omega) (by omega)]
  by_cases h2:v.1=2
  ·simp only[h2,ba_,Un (s:=v.2.2.1) (by omega)]
   rfl
  by_cases h3:v.1=3
  ·simp[h3,Um]
  by_cases h4:v.1=4
  ·have:=ut h h4
   simp[h4,ua (n:=v.2.1) (by omega) (by omega)]
  simp[h1,h2,h3,h4]
theorem tx {v:ac} (h:az v=true):fE v=some ((bG v,()),()):=by
 rw[Mm]
 unfold bG
 have hz:=dV h
 simp only[bx_]
 by_cases h1:v.1=1
 ·have:=rs h h1
  simp[h1,xI (n:=v.2.1) (by omega) (by omega)]
 by_cases h2:v.1=2
 ·simp only[h2,ba_,Un (s:=v.2.2.1) (by omega)]
  rfl
 by_cases h3:v.1=3
 ·have:=zn h h3
  simp only[h3,ba_]
  rw[ac_ (by decide),ac_ (by decide),ac_ (by decide),ac_ (by decide),bO (by omega) (by show v.2.1 < 2; omega)]
  unfold w5
  by_cases h5:v.2.1=1
  ·rw[h5]
   rfl
  ·rw[show v.2.1=0 by omega]
   rfl
 by_cases h4:v.1=4
 ·have:=ut h h4
  simp[h4,oE (n:=v.2.1) (by omega) (by omega)]
 simp[h1,h2,h3,h4]
theorem BF {v:ac} (hs:v.2.2.1.size≤9223372036854775807):lg v=some ((if az v=true then bG v else eS,()),()):=by
 rw[Mt,fB hs,ab_]
 cases h:az v
 ·rfl
 ·rw[tx h]
  rfl
def mJ (v:ac):Bool:=az v && !decide (v.1=4)
def pF (v:ac):aa_:=if v.1=2 then v.2.2.1 else bG v
theorem rt {v:ac} (h:az v=true):(pF v).size≤201:=by
 unfold pF
 split
 ·exact bq_ (dV h) (by decide)
 ·exact Lc h
theorem ud {v:ac} (hs:v.2.2.1.size≤9223372036854775807) : ∃ t,yE v=some ((t,mJ v,()),())∧(mJ v=true→t=pF v):=by
 rw[TZ]
 unfold mJ pF
 simp only[fB hs,BF hs,ab_,bx_]
 by_cases h2:v.1=2
 ·refine⟨_,by simp[h2]; rfl,fun _=>by simp[h2]⟩
 ·cases h:az v
  ·exact⟨_,by simp[h2]; rfl,fun h=>by cases h⟩
  ·refine⟨bG v,?_,fun _=>by simp[h2]⟩
   simp only[h2,av_,ba_,bt_]
   rfl
theorem AL {v:ac} (hs:v.2.2.1.size≤9223372036854775807):yG v=some ((if mJ v=true then pF v else eS,if mJ v=true then v0 else ig v,()),()):=by
 rw[T7]
 unfold mJ pF ig
 simp only[fA hs,dQ,eY hs,ab_,bx_]
 cases h:az v
 ·rfl
 ·by_cases h4:v.1=4
  ·simp[h4]
  ·by_cases h2:v.1=2 <;> simp[h2,h4,v0]
theorem uu {v:ac} (h:mJ v=true):az v=true:=by
 unfold mJ at h
 simp only[ag_] at h
 exact h.1
def AM (a b:ac):ac:=if mJ a=true then(if mJ b=true then(if 200 < (pF a).size+(pF b).size then vE 4 else vT (pF a++pF b)) else ig b) else ig a
section
variable {a b:ac} (ha:a.2.2.1.size≤9223372036854775807) (hb:b.2.2.1.size≤9223372036854775807)
include ha hb
theorem Uo:Jh a b=some ((AM a b,()),()):=by
 rw[Ub]
 unfold AM
 simp only[AL ha,AL hb,dQ,ab_,bne_iff_ne,ne_eq]
 cases ia:mJ a
 ·have:=cT a
  simp[this]
 ·cases ib:mJ b
  ·have:=cT b
   simp[this,v0]
  ·have h1:=rt (uu ia)
   have h2:=rt (uu ib)
   simp only[ba_,v0,not_true,av_]
   rw[wr (by omega) (by omega)]
   by_cases hc:200 < (pF a).size+(pF b).size
   ·rw[aJ (by omega),ae_ hc]
   ·rw[aE (by omega),ac_ hc,gj (by omega)]
    rfl
theorem HT:Jd a b=some ((AM a b,()),()):=by
 rw[T1]
 unfold AM
 obtain⟨t,e1,e2⟩:=ud ha
 obtain⟨u,e3,e4⟩:=ud hb
 simp only[e1,e3,fd ha,fd hb,gJ,ab_]
 cases ia:mJ a
 ·simp
 ·cases ib:mJ b
  ·simp
  ·have h1:=rt (uu ia)
   have h2:=rt (uu ib)
   rw[e2 ia,e4 ib]
   simp only[ba_,bc_,ak_,av_]
   rw[wr (by omega) (by omega)]
   by_cases hc:200 < (pF a).size+(pF b).size
   ·rw[aJ (by omega),ae_ hc]
   ·rw[aE (by omega),ac_ hc,gj (by omega)]
    rfl
end
def qz (x y:Int):Int:=if x < y then -1 else if y < x then 1 else 0
def OH (x y:aa_):Int:=if Ky x y=true then -1 else if x=y then 0 else 1
def OI (a b:ac):Int:=if a.1≠b.1 then qz a.1 b.1 else if a.2.1≠b.2.1 then qz a.2.1 b.2.1 else OH a.2.2.1 b.2.2.1
theorem Uq (p q:Bool):yH p q=some ((if p=true then -1 else if q=true then 1 else 0,()),()):=by
 rw[Ud]
 cases p <;> cases q <;> rfl
theorem Wp (a b:ac):NU a b=some ((OI a b,()),()):=by
 rw[Wj]
 unfold OI qz OH
 simp only[Uq,ab_,bne_iff_ne,ai_,sG]
 by_cases h1:a.1=b.1
 ·by_cases h2:a.2.1=b.2.1
  ·simp only[h1,h2,ne_eq,not_true,av_]
   change _=some ((if Ky a.2.2.1 b.2.2.1=true then _ else _,()),())
   change some ((if Ky a.2.2.1 b.2.2.1=true then _ else if(!(Ky a.2.2.1 b.2.2.1 || _))=true then _ else _,()),())=_
   cases Ky a.2.2.1 b.2.2.1
   ·by_cases h3:a.2.2.1=b.2.2.1 <;> simp[h3]
   ·rfl
  ·simp only[h1,h2,ne_eq,not_true,not_false_eq_true,av_,ba_]
   by_cases h3:a.2.1 < b.2.1
   ·simp[h3]
   ·have h4:b.2.1 < a.2.1:=by omega
    simp[h3,h4]
 ·simp only[h1,ne_eq,not_true,not_false_eq_true,ba_]
  by_cases h3:a.1 < b.1
  ·simp[h3]
  ·have h4:b.1 < a.1:=by omega
   simp[h3,h4]
theorem C7 (x y:Int):fO x y=some ((qz x y,()),()):=by
 rw[Ay,sO,sO]
 unfold qz
 simp
 by_cases h:x < y
 ·simp[h]
 ·by_cases h2:y < x <;> simp[h,h2]
theorem Wq (x y:aa_):mw x y=some ((OH x y,()),()):=by
 rw[yS,qQ,qQ]
 unfold OH
 simp only[sG,ck_,bc_,ab_,ak_,av_]
 change (if Ky x y=true then _ else if(!(Ky x y || _))=true then _ else _)=_
 cases Ky x y
 ·by_cases h3:x=y <;> simp[h3]
 ·rfl
theorem OJ {l:List Int} (hl:l.length≤100) : ∀(ys pre:List Int),l=pre++ys→oC 0 l (l.length:Int) (pre.length:Int)=some (((ys.find? fun y=>decide (y≠0)).getD 0,()),())
 | [],pre,he=>by
  rw[vw,aE (br he)]
  rfl
 | y :: ys,pre,he=>by
  rw[vw,aJ (bF he),bK he,aM he (by omega),OJ hl ys _ (aC he)]
  by_cases h:y=0
  ·simp[h]
  ·simp[h]
theorem OK {l:List Int} (hl:l.length≤100):tP l=some (((l.find? fun y=>decide (y≠0)).getD 0,()),()):=by
 rw[Mk]
 exact OJ hl l [] rfl
theorem HU {x y:Int}:qz x y=0↔x=y:=by
 unfold qz
 split
 ·omega
 ·split <;> omega
theorem Wr (a b:ac):CK a b=some ((OI a b,()),()):=by
 rw[Wb]
 simp only[C7,Wq,ab_]
 rw[OK (by simp)]
 unfold OI
 by_cases h1:a.1=b.1
 ·have e1:=HU.2 h1
  rw[ac_ (by simp[h1])]
  by_cases h2:a.2.1=b.2.1
  ·have e2:=HU.2 h2
   rw[ac_ (by simp[h2])]
   by_cases h3:OH a.2.2.1 b.2.2.1=0 <;> simp[List.find?,e1,e2,h3]
  ·have e2:qz a.2.1 b.2.1≠0:=fun h=>h2 (HU.1 h)
   rw[ae_ (by simp[h2])]
   simp[List.find?,e1,e2]
 ·have e1:qz a.1 b.1≠0:=fun h=>h1 (HU.1 h)
  rw[ae_ (by simp[h1])]
  simp[List.find?,e1]
def OL (a b:ac):ac:=if a.1=0 then(b.1,a.2.1,a.2.2.1,()) else a
def rel (op o:Int):Bool:=if op=6 then decide (o=0) else if op=7 then !decide (o=0) else if op=8 then decide (o < 0) else if op=9 then decide (o≤0) else if op=10 then decide (0 < o) else decide (0≤o)
def AN (op:Int) (a b:ac):ac:=if az a=true then(if az b=true then(if cu op 6 11=true then(if a.1=4 then a else if b.1=4 then b else vB (rel op (OI (OL a b) (OL b a)))) else vE 2) else vE 2) else vE 2
theorem Ur (a b:ac):DZ a b=some ((OL a b,()),()):=by
 rw[Uc]
 unfold OL
 by_cases h:a.1=0 <;> simp[h]
theorem acp {op o:Int} (h:cu op 6 11=true):List.getD [(o == 0),(o != 0),decide (o < 0),decide (o≤0),decide (o > 0),decide (o≥0)] (Int.toNat (he_ hf_ (op - 6))) false=rel op o:=by
 have:=bm.1 h
 rw[wr (by omega) (by omega)]
 have h6:op=6∨op=7∨op=8∨op=9∨op=10∨op=11:=by omega
 rcases h6 with rfl | rfl | rfl | rfl | rfl | rfl <;> rfl
section
variable {op:Int} {a b:ac} (ha:a.2.2.1.size≤9223372036854775807) (hb:b.2.2.1.size≤9223372036854775807)
include ha hb
theorem YD:To op a b=some ((AN op a b,()),()):=by
 rw[Yy]
 unfold AN rel
 simp only[fA ha,fA hb,dQ,kf,Ur,Wp,t7,ab_,bx_]
 cases az a
 ·rfl
 cases az b
 ·rfl
 cases cu op 6 11
 ·rfl
 simp only[bc_,ak_,av_,ba_]
 by_cases h1:a.1=4
 ·simp[h1]
 by_cases h2:b.1=4
 ·simp[h1,h2]
 simp only[h1,h2,av_]
 by_cases o6:op=6
 ·simp[o6,pc]
 by_cases o7:op=7
 ·simp[o7]; rfl
 by_cases o8:op=8
 ·simp[o8]
 by_cases o9:op=9
 ·simp[o9]
 by_cases o10:op=10
 ·simp[o10]
 simp[o6,o7,o8,o9,o10]
theorem OM:Tl op a b=some ((AN op a b,()),()):=by
 rw[Ys]
 unfold AN
 simp only[fB ha,fB hb,gJ,gu,Wr,ab_,bx_]
 cases az a
 ·rfl
 cases az b
 ·rfl
 cases hi:cu op 6 11
 ·rfl
 have hio:=bm.1 hi
 simp only[bc_,ak_,av_,ba_]
 by_cases h1:a.1=4
 ·simp[h1]
 by_cases h2:b.1=4
 ·simp[h1,h2]
 have hin : ∀(x1 x2 x3 x4 x5 x6:Bool) (k:Option ((ac×Unit)×Unit)),inb [x1,x2,x3,x4,x5,x6] (he_ hf_ (op - 6)) k=k:=fun x1 x2 x3 x4 x5 x6 k=>by
  rw[wr (by omega) (by omega)]
  exact bO (by omega) (by show op - 6 < 6; omega)
 simp only[h1,h2,av_,hin,acp hi,mI,ab_]
 unfold OL
 by_cases h3:a.1=0
 ·by_cases h4:b.1=0
  ·have eb:((0,b.2.1,b.2.2.1,()):ac)=b:=by rw[←h4]
   simp only[h3,h4,ba_,eb]
  ·simp[h3,h4]
 ·by_cases h4:b.1=0
  ·simp[h3,h4]
  ·simp[h3,h4]
end
abbrev p0:bX:=((0,0,()),false,false,())
abbrev ab.kids (x:ab):List Int:=x.2.2.2.2.2.1
def kM (op k:Int):Bool:=if op=5 then(decide (k=2) || decide (k=3)) else if cu op 1 7=true then cu k 1 10 else if cu op 8 10=true then decide (k=1) else false
def kl (x:ab):Int:=(am_ x.2.2.2.2.2.1:Int)
def dj (x:ab):Bool :=
 if x.1=1 then decide (x.2.1=0) && decide (x.2.2.2.1=p0) && decide (x.2.2.2.2.1=p0) && decide (kl x=0) && az x.2.2.1 && !decide (x.2.2.1.1=0) && (!decide (x.2.2.1.1=1) || decide (0≤x.2.2.1.2.1))
 else if x.1=2 then decide (x.2.1=0) && decide (x.2.2.1=v0) && decide (x.2.2.2.2.1=p0) && decide (kl x=0) && bM x.2.2.2.1.1
 else if x.1=3 then decide (x.2.1=0) && decide (x.2.2.1=v0) && decide (kl x=0) && lC (x.2.2.2.1.1,x.2.2.2.2.1.1,())
 else if x.1=4 then decide (x.2.1=0) && decide (x.2.2.1=v0) && decide (x.2.2.2.1=p0) && decide (x.2.2.2.2.1=p0) && decide (kl x=1)
 else if x.1=5 then cu x.2.1 1 11 && decide (x.2.2.1=v0) && decide (x.2.2.2.1=p0) && decide (x.2.2.2.2.1=p0) && decide (kl x=2)
 else if x.1=6 then kM x.2.1 (kl x) && decide (x.2.2.1=v0) && decide (x.2.2.2.1=p0) && decide (x.2.2.2.2.1=p0)
 else false
theorem YE {a b:bX}:(bq bW a b=true)=(a=b):=propext (kJ rfl)
theorem YF {a b:ac}:(bq ap a b=true)=(a=b):=propext (kJ rfl)
theorem ZJ (a b:bX):bq bW a b=decide (a=b):=by
 rw[bw_,ai_,YE]
theorem ZK (a b:ac):bq ap a b=decide (a=b):=by
 rw[bw_,ai_,YF]
theorem Us (op k:Int):Ja op k=some ((kM op k,()),()):=by
 rw[TK]
 unfold kM cu
 simp only[bx_,ai_,ge_iff_le,pc]
 by_cases h:op=1∨op=2∨op=3∨op=4∨op=5∨op=6∨op=7∨op=8∨op=9∨op=10
 ·by_cases hk:1≤k <;> by_cases hk2:k=2 <;> rcases h with rfl | rfl | rfl | rfl | rfl | rfl | rfl | rfl | rfl | rfl <;> simp[hk,hk2] <;> omega
 ·have h1:op≠1:=by omega
  have h2:op≠2:=by omega
  have h3:op≠3:=by omega
  have h4:op≠4:=by omega
  have h5:op≠5:=by omega
  have h6:op≠6:=by omega
  have h7:op≠7:=by omega
  have h8:op≠8:=by omega
  have h9:op≠9:=by omega
  have h10:op≠10:=by omega
  have h11 : ¬(1≤op∧op≤7):=by omega
  have h12 : ¬(8≤op∧op≤10):=by omega
  simp only[h1,h2,h3,h4,h5,h6,h7,h8,h9,h10,h11,h12,av_]
theorem C8 {x:ab} (h:x.2.2.1.2.2.1.size≤9223372036854775807):wo x=some ((dj x,()),()):=by
 rw[Oe]
 unfold dj kl
 simp only[fA h,kW,Uj,kf,Us,ab_,bx_,bne_iff_ne,ne_eq,YE,YF,ZJ,ZK,pc,v0,ge_iff_le]
 generalize (am_ x.2.2.2.2.2.1:Int)=k
 by_cases h1:x.1=1
 ·by_cases a1:x.2.1=0 <;> by_cases a2:x.2.2.2.1=p0 <;> by_cases a3:x.2.2.2.2.1=p0 <;> by_cases a4:k=0 <;> cases ov:az x.2.2.1 <;> by_cases a5:x.2.2.1.1=0 <;> by_cases a6:x.2.2.1.1=1 <;> simp[a1,a2,a3,a4,a5,a6,h1,ov]
 by_cases h2:x.1=2
 ·by_cases a1:x.2.1=0 <;> by_cases a2:x.2.2.1=(0,0,eS,()) <;> by_cases a3:x.2.2.2.2.1=p0 <;> by_cases a4:k=0 <;> simp[a1,a2,a3,a4,h2]
 by_cases h3:x.1=3
 ·by_cases a1:x.2.1=0 <;> by_cases a2:x.2.2.1=(0,0,eS,()) <;> by_cases a4:k=0 <;> simp[a1,a2,a4,h3]
 by_cases h4:x.1=4
 ·by_cases a1:x.2.1=0 <;> by_cases a2:x.2.2.1=(0,0,eS,()) <;> by_cases a3:x.2.2.2.1=p0 <;> by_cases a4:x.2.2.2.2.1=p0 <;> simp[a1,a2,a3,a4,h4]
 by_cases h5:x.1=5
 ·cases hi:cu x.2.1 1 11 <;> by_cases a2:x.2.2.1=(0,0,eS,()) <;> by_cases a3:x.2.2.2.1=p0 <;> by_cases a4:x.2.2.2.2.1=p0 <;> simp[a2,a3,a4,h5,hi]
 by_cases h6:x.1=6
 ·cases hi:kM x.2.1 k <;> by_cases a2:x.2.2.1=(0,0,eS,()) <;> by_cases a3:x.2.2.2.1=p0 <;> simp[a2,a3,h6,hi]
 simp[h1,h2,h3,h4,h5,h6]
theorem HV {x:ab} (h:x.2.2.1.2.2.1.size≤9223372036854775807):vb x=some ((dj x,()),()):=by
 have c1 : ∀ a:bX,(p0=a)=(a=p0):=fun a=>propext eq_comm
 have c2 : ∀ a:ac,((0,0,eS,())=a)=(a=(0,0,eS,())):=fun a=>propext eq_comm
 rw[HE,CU,FS]
 unfold dj kl kM
 simp only[fB h,yO,Uk,gu,ab_,bx_,bne_iff_ne,ne_eq,YE,YF,ZJ,ZK,pc,v0,ge_iff_le,c1,c2]
 generalize (am_ x.2.2.2.2.2.1:Int)=k
 by_cases h1:x.1=1
 ·simp only[h1,ba_]
  by_cases a1:x.2.1=0 <;> by_cases a2:x.2.2.2.1=p0 <;> by_cases a3:x.2.2.2.2.1=p0 <;> by_cases a4:k=0 <;> cases az x.2.2.1 <;> by_cases a5:x.2.2.1.1=0 <;> by_cases a6:x.2.2.1.1=1 <;> by_cases a7:x.2.2.1.2.1 < 0 <;> have a8:(0≤x.2.2.1.2.1) = ¬x.2.2.1.2.1 < 0:=propext (by omega) <;> simp[a1,a2,a3,a4,a5,a6,a7,a8]
 by_cases h2:x.1=2
 ·have e:lC (x.2.2.2.1.1,x.2.2.2.1.1,())=bM x.2.2.2.1.1:=by
   unfold lC
   simp
  by_cases a1:x.2.1=0 <;> by_cases a2:x.2.2.1=(0,0,eS,()) <;> by_cases a3:x.2.2.2.2.1=p0 <;> by_cases a4:k=0 <;> cases hr:bM x.2.2.2.1.1 <;> simp[a1,a2,a3,a4,h2,e,hr]
 by_cases h3:x.1=3
 ·by_cases a1:x.2.1=0 <;> by_cases a2:x.2.2.1=(0,0,eS,()) <;> by_cases a4:k=0 <;> cases hr:lC (x.2.2.2.1.1,x.2.2.2.2.1.1,()) <;> simp[a1,a2,a4,h3,hr]
 by_cases h4:x.1=4
 ·by_cases a1:x.2.1=0 <;> by_cases a2:x.2.2.1=(0,0,eS,()) <;> by_cases a3:x.2.2.2.1=p0 <;> by_cases a4:x.2.2.2.2.1=p0 <;> by_cases a5:k=1 <;> simp[a1,a2,a3,a4,a5,h4]
 by_cases h5:x.1=5
 ·cases hi:cu x.2.1 1 11 <;> by_cases a2:x.2.2.1=(0,0,eS,()) <;> by_cases a3:x.2.2.2.1=p0 <;> by_cases a4:x.2.2.2.2.1=p0 <;> by_cases a5:k=2 <;> simp[a2,a3,a4,a5,h5,hi]
 by_cases h6:x.1=6
 ·by_cases a2:x.2.2.1=(0,0,eS,()) <;> by_cases a3:x.2.2.2.1=p0 <;> by_cases a4:x.2.2.2.2.1=p0 <;> simp only[a2,a3,a4,h6,ba_,av_,ck_,decide_false,Bool.and_false,er_]
  all_goals
   generalize x.2.1=op
   unfold cu
   by_cases b1:1≤op∧op≤10
   ·by_cases b2:op=5
    ·subst b2
     by_cases b3:2≤k∧k≤3
     ·have:k=2∨k=3:=by omega
      rcases this with rfl | rfl <;> simp
     ·have : ¬k=2:=by omega
      have : ¬k=3:=by omega
      simp[b3, *]
    ·by_cases b3:8≤op
     ·have b4 : ¬(op≤7):=by omega
      have b5:op≤10:=by omega
      by_cases b6:k=1 <;> simp[b1,b2,b3,b4,b5,b6]
     ·have b4:op≤7:=by omega
      by_cases b6:1≤k∧k≤10 <;> simp[b1,b2,b3,b4,b6]
   ·have b2 : ¬op=5:=by omega
    have b3 : ¬(1≤op∧op≤7):=by omega
    have b4 : ¬(8≤op∧op≤10):=by omega
    simp[b1,b2,b3,b4]
 simp[h1,h2,h3,h4,h5,h6]
def fK (f:List ab) (i:Int):Bool:=decide ((f.getD i.toNat aq.dflt).1=3)
def cq (f:List ab) (k:Int):ab:=f.getD k.toNat aq.dflt
def fu (c:Int→Option (Int×Nat)) (f:List ab) (call:Bool):List Int→Int→Nat→Option (Int×Nat)
 | [],cur,h=>some (cur,h+1)
 | kid :: l,cur,h=>if kid=cur - 1∧0≤kid∧(fK f kid=true→call=true) then(c kid).bind fun p=>fu c f call l p.1 (max h p.2) else none
def dR (f:List ab):Nat→Int→Option (Int×Nat)
 | 0,_=>none
 | n+1,k=>if 0≤k then match f[k.toNat]? with
  | none=>none
  | some x=>if dj x=true then fu (dR f n) f (decide (x.1=6)) x.2.2.2.2.2.1.reverse k 0 else none
  else none
def lD (f:List ab) (i:Nat) (x:ab):Prop:=dj x=true ∧ ∀ k∈x.2.2.2.2.2.1,0≤k∧k < i∧(fK f k=true→x.1=6)
theorem sW {c:Int→Option (Int×Nat)} {f:List ab} {call:Bool} (hc : ∀ k s h,c k=some (s,h)→0≤s∧s≤k ∧ ∀ i:Nat,s≤i→(i:Int)≤k → ∃ x,f[i]? = some x∧lD f i x) :
  ∀(l:List Int) (cur:Int) (h:Nat) (s:Int) (h':Nat),0≤cur→fu c f call l cur h=some (s,h')→0≤s∧s≤cur∧h+1≤h'∧(∀ i:Nat,s≤i→(i:Int) < cur → ∃ x,f[i]? = some x∧lD f i x) ∧ ∀ k∈l,0≤k∧k < cur∧(fK f k=true→call=true)
 | [],cur,h,s,h',h0,e=>by
  simp only[fu,bd_,fh_] at e
  obtain⟨rfl,rfl⟩:=e
  exact⟨h0,co_ _,aq_ _,fun i h1 h2=>by omega,fun k hk=>by cases hk⟩
 | kid :: l,cur,h,s,h',h0,e=>by
  simp only[fu] at e
  split at e
  ·rename_i hk
   rw[al_] at e
   obtain⟨⟨t,ht⟩,e1,e2⟩:=e
   obtain⟨a1,a2,a3⟩:=hc _ _ _ e1
   obtain⟨b1,b2,b3,b4,b5⟩:=sW hc l t (max h ht) s h' a1 e2
   refine⟨b1,by omega,by omega,fun i h1 h2 => ?_,fun k hm => ?_⟩
   ·by_cases hi:(i:Int) < t
    ·exact b4 i h1 hi
    ·exact a3 i (by omega) (by omega)
   ·rcases bi_.1 hm with rfl | hm
    ·exact⟨hk.2.1,by omega,hk.2.2⟩
    ·have:=b5 k hm
     exact⟨this.1,by omega,this.2.2⟩
  ·cases e
theorem fQ (f:List ab) : ∀(n:Nat) (k s:Int) (h:Nat),dR f n k=some (s,h)→0≤s∧s≤k ∧ ∀ i:Nat,s≤i→(i:Int)≤k → ∃ x,f[i]? = some x∧lD f i x
 | 0,_,_,_,e=>by cases e
 | n+1,k,s,h,e=>by
  simp only[dR] at e
  split at e
  ·rename_i h0
   split at e
   ·cases e
   ·rename_i x hx
    split at e
    ·rename_i ho
     obtain⟨b1,b2,b3,b4,b5⟩:=sW (fQ f n) _ _ _ _ _ h0 e
     refine⟨b1,b2,fun i h1 h2 => ?_⟩
     by_cases hi:(i:Int) < k
     ·exact b4 i h1 hi
     ·have hik:i=k.toNat:=by omega
      refine⟨x,by rw[hik,hx],ho,fun k' hk' => ?_⟩
      have:=b5 k' (by simpa using hk')
      exact⟨this.1,by omega,fun ha=>by simpa using this.2.2 ha⟩
    ·cases e
  ·cases e
theorem aan {f:List ab} {n:Nat} {k s:Int} {h:Nat} (e:dR f n k=some (s,h)):1≤h:=by
 cases n with
 | zero=>cases e
 | succ n =>
  simp only[dR] at e
  split at e
  ·rename_i h0
   split at e
   ·cases e
   ·split at e
    ·exact bq_ (by omega) (sW (fQ f n) _ _ _ _ _ h0 e).2.2.1
    ·cases e
  ·cases e
def oF (deep:Int):Option (Int×Nat)→Int
 | some (s,h)=>if deep+h≤12 then s else -1
 | none => -1
theorem fW {n:Int} (h0 : -1000000000≤n) (h1:n≤1000000000):IntKind.i64.wrap n=n:=wr (by omega) (by omega)
section
variable {f:List ab} (hl:f.length≤10000000) (hs : ∀ x∈f,x.2.2.1.2.2.1.size≤9223372036854775807)
include hl hs
theorem HW {n:Nat} (ih : ∀(k deep:Int),0≤k→k < n→k < f.length→0≤deep→deep≤12→An f k deep=some ((oF deep (dR f n k),()),())) {x:ab} {k:Int} (h0:0≤k) (hk:f[k.toNat]? = some x) (hkn:k≤n) (hkl:x.2.2.2.2.2.1.length≤10000000) :
  ∀(r suf:List Int) (cur:Int) (h:Nat) (deep:Int),x.2.2.2.2.2.1=r.reverse++suf→0≤cur→cur≤k→0≤deep→deep+h+1≤12→rq f k deep cur ((r.length:Int) - 1)=some ((oF deep (fu (dR f n) f (decide (x.1=6)) r cur h),()),())
 | [],suf,cur,h,deep,he,c0,c1,d0,d1=>by
  rw[E0,aE (by simp)]
  simp only[fu,oF]
  rw[ae_ (by omega)]
 | kid :: r,suf,cur,h,deep,he,c0,c1,d0,d1=>by
  have hkl2:k < (f.length:Int):=by
   have:=(ax_.1 hk).1
   omega
  have he':x.2.2.2.2.2.1=r.reverse++kid :: suf:=by rw[he]; simp
  have hlen:(((kid :: r).length:Int) - 1)=((r.reverse).length:Int):=by simp
  rw[E0,aJ (by rw[hlen]; exact nn _),bU h0 hk,hlen,bK he',fW (n:=cur - 1) (by omega) (by omega)]
  simp only[fu]
  by_cases e1:kid=cur - 1
  ·rw[ac_ (by simp[e1])]
   by_cases e2:kid < 0
   ·rw[aJ e2,ac_ (by omega)]
    rfl
   ·rw[aE e2]
    have hkd:kid < (f.length:Int):=by omega
    obtain⟨y,hy⟩ : ∃ y,f[kid.toNat]? = some y:=⟨f[kid.toNat]'(by omega),as_ _⟩
    rw[bU (by omega) hy]
    have har:fK f kid=decide (y.1=3):=by
     unfold fK
     rw[ao_,hy]
     rfl
    have go:((An f kid (he_ hf_ (deep+1))).bind fun z1=>if decide (z1.1.1 < 0)=true then some ((-1,()),()) else rq f k deep z1.1.1 (he_ hf_ (((r.reverse).length:Int) - 1)))=some ((oF deep ((dR f n kid).bind fun p=>fu (dR f n) f (decide (x.1=6)) r p.1 (max h p.2)),()),()):=by
     have hlr:(r.reverse).length≤10000000:=by
      rw[he',af_] at hkl
      omega
     rw[fW (by omega) (by omega),fW (by omega) (by omega),ih kid (deep+1) (by omega) (by omega) hkd (by omega) (by omega),ab_]
     cases hc:dR f n kid with
     | none=>rfl
     | some p =>
      obtain⟨t,ht⟩:=p
      have ha:=fQ f n _ _ _ hc
      by_cases hd:deep+1+ht≤12
      ·have er:oF (deep+1) (some (t,ht))=t:=ae_ hd
       simp only[er,ab_]
       rw[aE (by omega),gw_,HW ih h0 hk hkn hkl r (kid :: suf) t (max h ht) deep he' (by omega) (by omega) d0 (by omega)]
      ·have er:oF (deep+1) (some (t,ht)) = -1:=ac_ hd
       simp only[er,ab_]
       rw[aJ (by decide)]
       cases hq:fu (dR f n) f (decide (x.1=6)) r t (max h ht) with
       | none=>rfl
       | some q =>
        obtain⟨s',h'⟩:=q
        have:=(sW (fQ f n) _ _ _ _ _ (by omega) hq).2.2.1
        simp only[oF]
        rw[ac_ (by omega)]
    by_cases e3:y.1=3
    ·rw[ae_ (by simp[e3]),bU h0 hk]
     by_cases e4:x.1=6
     ·rw[ac_ (by simp[e4]),ae_ ⟨e1,by omega,fun _=>by simp[e4]⟩]
      exact go
     ·rw[ae_ (by simp[e4]),ac_ (by rw[har]; simp[e3,e4])]
      rfl
    ·rw[ac_ (by simp[e3]),ae_ ⟨e1,by omega,fun h=>by rw[har] at h; simp[e3] at h⟩]
     exact go
  ·rw[ae_ (by simpa using e1),ac_ (fun h=>e1 h.1)]
   rfl
theorem OO : ∀(n:Nat) (k deep:Int),0≤k→k < n→k < f.length→0≤deep→deep≤12→(∀ x∈f,x.2.2.2.2.2.1.length≤10000000)→An f k deep=some ((oF deep (dR f n k),()),())
 | 0,k,deep,h0,h1,_,_,_,_=>by omega
 | n+1,k,deep,h0,h1,h2,d0,d1,hkl=>by
  obtain⟨x,hx⟩ : ∃ y,f[k.toNat]? = some y:=⟨f[k.toNat]'(by omega),as_ _⟩
  have hm:x∈f:=cd_ hx
  rw[Yn,aE (by omega)]
  by_cases hd:deep≥12
  ·rw[aJ hd]
   cases hc:dR f (n+1) k with
   | none=>rfl
   | some p =>
    obtain⟨s,h⟩:=p
    have:=aan hc
    simp only[oF]
    rw[ac_ (by omega)]
  ·have:=hkl x hm
   rw[aE hd,bU h0 hx,HV (hs x hm),ab_,bU h0 hx,fW (by omega) (by omega)]
   simp only[dR,ae_ h0,hx]
   cases ho:dj x with
   | false=>rfl
   | true =>
    simp only[bc_,ak_,av_,ba_]
    have:=HW hl hs (n:=n) (fun k deep a b c d e=>OO n k deep a b c d e hkl) h0 hx (by omega) this x.2.2.2.2.2.1.reverse [] k 0 deep (by simp) h0 (co_ _) d0 (by omega)
    rw[gw_] at this
    exact this
def JD:Option (Int×Nat)→Int
 | some (s,_)=>s
 | none => -1
theorem C9 {n:Nat} (A : ∀(i:Nat) (x:ab),f[i]? = some x→lD f i x) (ih : ∀(k:Int),0≤k→k < n→k < f.length→yA f k=some ((JD (dR f n k),()),())) {x:ab} {k:Int} (h0:0≤k) (hk:f[k.toNat]? = some x) (hkn:k≤n) (hkl:x.2.2.2.2.2.1.length≤10000000) :
  ∀(r suf:List Int) (cur:Int) (h:Nat),x.2.2.2.2.2.1=r.reverse++suf→0≤cur→cur≤k→tU f k (cur - 1) ((r.length:Int) - 1)=some ((JD (fu (dR f n) f (decide (x.1=6)) r cur h),()),())
 | [],suf,cur,h,he,c0,c1=>by
  have hkl2:k < (f.length:Int):=by
   have:=(ax_.1 hk).1
   omega
  rw[Bv,aE (by simp),fW (by omega) (by omega)]
  simp only[fu,JD]
  congr 3
  omega
 | kid :: r,suf,cur,h,he,c0,c1=>by
  have hkl2:k < (f.length:Int):=by
   have:=(ax_.1 hk).1
   omega
  have he':x.2.2.2.2.2.1=r.reverse++kid :: suf:=by rw[he]; simp
  have hlen:(((kid :: r).length:Int) - 1)=((r.reverse).length:Int):=by simp
  have hmem:kid∈x.2.2.2.2.2.1:=by rw[he']; simp
  have hst:=(A _ _ hk).2 kid hmem
  rw[Bv,aJ (by rw[hlen]; exact nn _)]
  simp only[fu]
  by_cases e0:cur - 1 < 0
  ·rw[aJ e0,ac_ (by omega)]
   rfl
  ·rw[aE e0,bU h0 hk,hlen,bK he']
   by_cases e1:kid=cur - 1
   ·have hkd:kid < (f.length:Int):=by omega
    have hlr:(r.reverse).length≤10000000:=by
     rw[he',af_] at hkl
     omega
    rw[ac_ (by simp[e1]),ae_ ⟨e1,hst.1,fun ha=>by simpa using hst.2.2 ha⟩,←e1,ih kid hst.1 (by omega) hkd,ab_,fW (n:=(r.reverse.length:Int) - 1) (by omega) (by omega)]
    cases hc:dR f n kid with
    | none=>rfl
    | some p =>
     obtain⟨t,ht⟩:=p
     have ha:=fQ f n _ _ _ hc
     have er:JD (some (t,ht))=t:=rfl
     simp only[er,ab_]
     rw[aE (by omega),fW (n:=t - 1) (by omega) (by omega),gw_,C9 A ih h0 hk hkn hkl r (kid :: suf) t (max h ht) he' (by omega) (by omega)]
   ·rw[ae_ (by simpa using e1),ac_ (fun h=>e1 h.1)]
    rfl
theorem HX (A : ∀(i:Nat) (x:ab),f[i]? = some x→lD f i x) (hkl : ∀ x∈f,x.2.2.2.2.2.1.length≤10000000) : ∀(n:Nat) (k:Int),0≤k→k < n→k < f.length→yA f k=some ((JD (dR f n k),()),())
 | 0,k,h0,h1,_=>by omega
 | n+1,k,h0,h1,h2=>by
  obtain⟨x,hx⟩ : ∃ y,f[k.toNat]? = some y:=⟨f[k.toNat]'(by omega),as_ _⟩
  have hm:x∈f:=cd_ hx
  have hk:=hkl x hm
  rw[TM,bU h0 hx,fW (n:=k - 1) (by omega) (by omega),fW (by omega) (by omega)]
  simp only[dR,ae_ h0,hx,(A _ _ hx).1,ba_]
  have:=C9 hl hs (n:=n) A (HX A hkl n) h0 hx (by omega) hk x.2.2.2.2.2.1.reverse [] k 0 (by simp) h0 (co_ _)
  rw[gw_] at this
  exact this
def nL (c:Int→Option (Int×Nat)):List Int→Nat
 | []=>0
 | k :: l=>max (((c k).map (·.2)).getD 0) (nL c l)
omit hl hs in
theorem F3 (c:Int→Option (Int×Nat)) (k:Int) : ∀ l,nL c (l++[k])=max (nL c l) (((c k).map (·.2)).getD 0)
 | []=>by simp[nL]
 | y :: l=>by
  simp only[List.cons_append,nL,F3 c k l]
  omega
omit hl hs in
theorem R9 (c:Int→Option (Int×Nat)) : ∀ l,nL c l.reverse=nL c l
 | []=>rfl
 | y :: l=>by
  rw[List.reverse_cons,F3,R9 c l]
  simp only[nL]
  omega
omit hl hs in
theorem Ld {c:Int→Option (Int×Nat)} {call:Bool} : ∀(l:List Int) (cur:Int) (h:Nat) (s:Int) (h':Nat),fu c f call l cur h=some (s,h')→h'=max h (nL c l)+1 ∧ ∀ k∈l,∃ p,c k=some p
 | [],cur,h,s,h',e=>by
  simp only[fu,bd_,fh_] at e
  exact⟨by simp only[nL]; omega,fun k hk=>by cases hk⟩
 | kid :: l,cur,h,s,h',e=>by
  simp only[fu] at e
  split at e
  ·rw[al_] at e
   obtain⟨⟨t,ht⟩,e1,e2⟩:=e
   obtain⟨b1,b2⟩:=Ld l t (max h ht) s h' e2
   refine⟨?_,fun k hk => ?_⟩
   ·simp only[nL,e1,dz_,de_]
    omega
   ·rcases bi_.1 hk with rfl | hk
    ·exact⟨_,e1⟩
    ·exact b2 k hk
  ·cases e
theorem Da {n:Nat} {c:Int→Option (Int×Nat)} (ih : ∀(k:Int) (s:Int) (h:Nat),k < n→c k=some (s,h)→yB f k=some (((h:Int),()),())) {x:ab} {k:Int} (h0:0≤k) (hk:f[k.toNat]? = some x) (hkn:k≤n) (hkl:x.2.2.2.2.2.1.length≤10000000) (hall : ∀ k'∈x.2.2.2.2.2.1,(∃ p,c k'=some p)∧k' < k) (hb:nL c x.2.2.2.2.2.1≤10000000) :
  ∀(ys pre:List Int),x.2.2.2.2.2.1=pre++ys→tV f k (nL c pre:Int) (pre.length:Int)=some ((((nL c x.2.2.2.2.2.1+1:Nat):Int),()),())
 | [],pre,he=>by
  have:pre=x.2.2.2.2.2.1:=by rw[he]; simp
  rw[Bw,bU h0 hk,aE (br he),this,fW (by omega) (by omega)]
  rfl
 | y :: ys,pre,he=>by
  obtain⟨⟨⟨s,h⟩,hc⟩,hlt⟩:=hall y (by rw[he]; simp)
  rw[Bw,bU h0 hk,aJ (bF he),bU h0 hk,bK he,ih y s h (by omega) hc,ab_,aM he (by omega)]
  have:(if((nL c pre:Nat):Int) < (h:Int) then(h:Int) else((nL c pre:Nat):Int))=(nL c (pre++[y]):Int):=by
   rw[F3,hc]
   simp only[dz_,de_]
   split <;> omega
  rw[this]
  exact Da ih h0 hk hkn hkl hall hb ys _ (aC he)
theorem AO (hkl : ∀ x∈f,x.2.2.2.2.2.1.length≤10000000) : ∀(n:Nat) (k s:Int) (h:Nat),dR f n k=some (s,h)→n≤10000000→h≤n∧yB f k=some (((h:Int),()),())
 | 0,_,_,_,e,_=>by cases e
 | n+1,k,s,h,e,hn=>by
  have hall:=fQ f _ _ _ _ e
  simp only[dR] at e
  split at e
  ·rename_i h0
   split at e
   ·cases e
   ·rename_i x hx
    split at e
    ·have hm:x∈f:=cd_ hx
     obtain⟨b1,b2⟩:=Ld _ _ _ _ _ e
     have hst:=sW (fQ f n) _ _ _ _ _ h0 e
     have hhm:nL (dR f n) x.2.2.2.2.2.1≤n:=by
      have : ∀ l:List Int,nL (dR f n) l≤n:=by
       intro l
       induction l with
       | nil=>exact di_ _
       | cons y l ih =>
        simp only[nL]
        cases hc:dR f n y with
        | none=>simpa using ih
        | some p =>
         have:=(AO hkl n y p.1 p.2 hc (by omega)).1
         simp only[dz_,de_]
         omega
      exact this _
     rw[R9] at b1
     refine⟨by omega,?_⟩
     rw[TN]
     have hk2 : ∀ k'∈x.2.2.2.2.2.1,(∃ p,dR f n k'=some p)∧k' < k:=fun k' hk'=>⟨b2 k' (by simpa using hk'),(hst.2.2.2.2 k' (by simpa using hk')).2.1⟩
     have:=Da hl hs (n:=k.toNat) (c:=dR f n) (fun k' s' h' _ hc=>(AO hkl n k' s' h' hc (by omega)).2) h0 hx (by omega) (hkl x hm) hk2 (by omega) x.2.2.2.2.2.1 [] rfl
     rw[b1]
     have hz:max 0 (nL (dR f n) x.2.2.2.2.2.1)=nL (dR f n) x.2.2.2.2.2.1:=by omega
     rw[hz]
     exact this
    ·cases e
  ·cases e
end
def sX (f:List ab):Bool:=match dR f f.length ((f.length:Int) - 1) with
 | some (s,h)=>decide (s=0) && (!fK f ((f.length:Int) - 1) && decide ((h:Int)≤12))
 | none=>false
def ef (f:List ab):Bool:=cu (f.length:Int) 1 60 && sX f
theorem jT {f:List ab} (h:ef f=true) (i:Nat) (x:ab) (hx:f[i]? = some x):lD f i x:=by
 unfold ef sX at h
 simp only[ag_] at h
 obtain⟨h1,h2⟩:=h
 have h1:=bm.1 h1
 cases hc:dR f f.length ((f.length:Int) - 1) with
 | none=>rw[hc] at h2; cases h2
 | some p =>
  obtain⟨s,d⟩:=p
  rw[hc] at h2
  simp only[ag_,ai_] at h2
  have hl:=(ax_.1 hx).1
  obtain⟨y,hy,hs⟩:=(fQ f _ _ _ _ hc).2.2 i (by omega) (by omega)
  rw[hx] at hy
  rw[ch_ hy]
  exact hs
section
variable {f:List ab} (hl:f.length≤10000000) (hs : ∀ x∈f,x.2.2.1.2.2.1.size≤9223372036854775807) (hkl : ∀ x∈f,x.2.2.2.2.2.1.length≤10000000)
include hl hs hkl
theorem lE:tQ f=some ((ef f,()),()):=by
 rw[Mq]
 unfold ef
 simp only[gu,ab_]
 cases hb:cu (f.length:Int) 1 60 with
 | false=>rfl
 | true =>
  have hb:=bm.1 hb
  obtain⟨x,hx⟩ : ∃ y,f[((f.length:Int) - 1).toNat]? = some y:=⟨f[((f.length:Int) - 1).toNat]'(by omega),as_ _⟩
  have har:fK f ((f.length:Int) - 1)=decide (x.1=3):=by
   unfold fK
   rw[ao_,hx]
   rfl
  have hfr:=OO hl hs f.length ((f.length:Int) - 1) 0 (by omega) (by omega) (by omega) (by decide) (by decide) hkl
  simp only[ba_]
  rw[fW (by omega) (by omega),bU (by omega) hx,hfr]
  unfold sX
  rw[har]
  cases hc:dR f f.length ((f.length:Int) - 1) with
  | none=>by_cases h3:x.1=3 <;> simp[h3,oF]
  | some p =>
   obtain⟨s,h⟩:=p
   have hp:=(fQ f _ _ _ _ hc).1
   by_cases h3:x.1=3
   ·simp[h3]
   ·by_cases h4:(h:Int)≤12
    ·simp[h3,oF,h4,pc]
    ·simp[h3,oF,h4]
theorem w6 {x:ab} {i:Nat} (hi:f[i]? = some x) (hil:i≤10000000) : ∀(ys pre:List Int),x.2.2.2.2.2.1=pre++ys →
  lz f (i:Int) (pre.length:Int)=if(ys.all fun k=>cu k 0 ((i:Int) - 1) && (!fK f k || decide (x.1=6)))=true then eX f ((i+1:Nat):Int) else some ((false,()),())
 | [],pre,he=>by
  rw[vz,bU (nn _) (by simpa using hi),aE (br he),fW (by omega) (by omega)]
  simp
 | y :: ys,pre,he=>by
  have hm:x∈f:=cd_ hi
  have:=hkl x hm
  rw[vz,bU (nn _) (by simpa using hi),aJ (bF he),bU (nn _) (by simpa using hi),bK he,kf,ab_,fW (n:=(i:Int) - 1) (by omega) (by omega),aM he (by omega)]
  have ih:=w6 hi hil ys _ (aC he)
  have hlt:=(ax_.1 hi).1
  cases hy:cu y 0 ((i:Int) - 1) with
  | false=>simp[hy]
  | true =>
   have hy2:=bm.1 hy
   obtain⟨z,hz⟩ : ∃ z,f[y.toNat]? = some z:=⟨f[y.toNat]'(by omega),as_ _⟩
   have har:fK f y=decide (z.1=3):=by
    unfold fK
    rw[ao_,hz]
    rfl
   simp only[bc_,ak_,av_]
   rw[bU (by omega) hz]
   by_cases h3:z.1=3
   ·rw[ae_ (by simp[h3]),bU (nn _) (by simpa using hi)]
    by_cases h6:x.1=6
    ·rw[ac_ (by simp[h6]),ih]
     simp[hy,har,h6]
    ·rw[ae_ (by simp[h6])]
     simp[hy,har,h3,h6]
   ·rw[ac_ (by simp[h3]),ih]
    simp[hy,har,h3]
def nt (f:List ab) (i:Nat):Bool:=match f[i]? with
 | some x=>dj x && x.2.2.2.2.2.1.all fun k=>cu k 0 ((i:Int) - 1) && (!fK f k || decide (x.1=6))
 | none=>true
omit hl hs hkl in
theorem E5 {i:Nat} {x:ab} (hx:f[i]? = some x):nt f i=true↔lD f i x:=by
 unfold nt lD
 rw[hx]
 simp only[ag_,cl_,bm,cx_,Bool.not_eq_true',ai_]
 constructor
 ·rintro⟨h1,h2⟩
  refine⟨h1,fun k hk => ?_⟩
  obtain⟨⟨a,b⟩,c⟩:=h2 k hk
  refine⟨a,by omega,fun ha => ?_⟩
  rcases c with c | c
  ·rw[c] at ha
   cases ha
  ·exact c
 ·rintro⟨h1,h2⟩
  refine⟨h1,fun k hk => ?_⟩
  obtain⟨a,b,c⟩:=h2 k hk
  refine⟨⟨a,by omega⟩,?_⟩
  cases ha:fK f k with
  | true=>exact .inr (c ha)
  | false=>exact .inl rfl
theorem HY (hne:1≤f.length) (A : ∀(i:Nat) (x:ab),f[i]? = some x→lD f i x):eX f (f.length:Int)=some ((sX f,()),()):=by
 obtain⟨x,hx⟩ : ∃ y,f[((f.length:Int) - 1).toNat]? = some y:=⟨f[((f.length:Int) - 1).toNat]'(by omega),as_ _⟩
 have har:fK f ((f.length:Int) - 1)=decide (x.1=3):=by
  unfold fK
  rw[ao_,hx]
  rfl
 rw[vv,aE (Int.lt_irrefl _),fW (by omega) (by omega),HX hl hs A hkl f.length _ (by omega) (by omega) (by omega),ab_,bU (by omega) hx]
 unfold sX
 rw[har]
 cases hc:dR f f.length ((f.length:Int) - 1) with
 | none=>rfl
 | some p =>
  obtain⟨s,h⟩:=p
  have er:JD (some (s,h))=s:=rfl
  simp only[er]
  by_cases h0:s=0
  ·by_cases h3:x.1=3
   ·simp[h0,h3]
   ·rw[ae_ (by simp[h0]),ae_ (by simp[h3]),(AO hl hs hkl _ _ _ _ hc hl).2]
    simp[h0,h3]
  ·rw[ac_ (by simp[h0])]
   simp[h0]
theorem HZ {i:Nat} (hi:i < f.length):eX f (i:Int)=if nt f i=true then eX f ((i+1:Nat):Int) else some ((false,()),()):=by
 obtain⟨x,hx⟩ : ∃ y,f[i]? = some y:=⟨f[i],as_ _⟩
 have hm:x∈f:=cd_ hx
 rw[vv,aJ (by omega),bU (nn _) (by simpa using hx),C8 (hs x hm),ab_]
 have es:nt f i=(dj x && x.2.2.2.2.2.1.all fun k=>cu k 0 ((i:Int) - 1) && (!fK f k || decide (x.1=6))):=by
  unfold nt
  rw[hx]
 rw[es]
 cases ho:dj x with
 | false=>simp
 | true =>
  have:=w6 hl hs hkl hx (by omega) x.2.2.2.2.2.1 [] rfl
  simp only[bc_,ak_,av_,bt_]
  exact this
open Classical in
theorem vG : ∀(n i:Nat),i+n=f.length→eX f (i:Int)=if(∀ j,i≤j→j < f.length→nt f j=true) then eX f (f.length:Int) else some ((false,()),())
 | 0,i,h=>by
  have:i=f.length:=by omega
  rw[this,ae_ (fun j h1 h2=>by omega)]
 | n+1,i,h=>by
  rw[HZ hl hs hkl (by omega),vG n (i+1) (by omega)]
  by_cases h1:nt f i=true
  ·rw[ae_ h1]
   by_cases h2 : ∀ j,i+1≤j→j < f.length→nt f j=true
   ·rw[ae_ h2,ae_ (fun j a b=>by
     by_cases hj:j=i
     ·rw[hj]; exact h1
     ·exact h2 j (by omega) b)]
   ·rw[ac_ h2,ac_ (fun h3=>h2 fun j a b=>h3 j (by omega) b)]
  ·rw[ac_ h1,ac_ (fun h3=>h1 (h3 i (aq_ _) (by omega)))]
theorem lF:ng f=some ((ef f,()),()):=by
 rw[Mf]
 by_cases h1:(f.length:Int) < 1
 ·rw[aJ h1]
  have:cu (f.length:Int) 1 60=false:=by simp[cu]; omega
  simp[ef,this]
 ·rw[aE h1]
  by_cases h2:(f.length:Int) > 60
  ·rw[aJ h2]
   have:cu (f.length:Int) 1 60=false:=by simp[cu]; omega
   simp[ef,this]
  ·have hb:cu (f.length:Int) 1 60=true:=bm.2 (by omega)
   rw[aE h2,show(0:Int)=((0:Nat):Int) from rfl,vG hl hs hkl f.length 0 (by omega)]
   by_cases A : ∀ j,0≤j→j < f.length→nt f j=true
   ·rw[ae_ A,HY hl hs hkl (by omega) fun i x hx=>(E5 hx).1 (A i (di_ _) (ax_.1 hx).1)]
    simp[ef,hb]
   ·rw[ac_ A]
    have:ef f=false:=by
     cases ho:ef f with
     | false=>rfl
     | true =>
      refine absurd (fun j _ hj => ?_) A
      have hx:f[j]? = some f[j]:=as_ _
      exact(E5 hx).2 (jT ho j _ hx)
    rw[this]
end
abbrev aj:=List UInt8
abbrev lb (s:aa_):aj:=s.data.toList
abbrev ba (l:aj):aa_:=⟨l.toArray⟩
theorem dl (l:aj):lb (ba l)=l:=by simp
theorem dM (s:aa_):ba (lb s)=s:=by cases s; simp
theorem aK (l:aj):(ba l).size=l.length:=by
 show(ba l).data.size=_
 simp
theorem iR (s:aa_):(lb s).length=s.size:=by
 rw[Array.length_toList]
 rfl
theorem Db {a b:aj} (h:ba a=ba b):a=b:=by
 rw[←dl a,h,dl]
theorem acq {a b:aj}:(ba a=ba b)=(a=b):=propext ⟨Db,fun h=>by rw[h]⟩
theorem Ut (l:aj) (i j:Nat):(ba l).extract i j=ba ((l.take j).drop i):=by
 apply zm
 simp[ByteArray.data_extract,List.extract_eq_take_drop,List.drop_take]
theorem kN (a b:aj):ba a++ba b=ba (a++b):=by
 apply zm
 simp
theorem dK {a b:aj}:(ah_ (ba a) == ah_ (ba b))=decide (a=b):=by
 rw[sG,bw_,ai_,ai_,acq]
theorem Ws (l:aj):nK (ba l)=l.map fun b=>(b.toNat:Int):=by simp[nK]
theorem lG {β:Type} {l pre ys:aj} {y:UInt8} {f:Int→Option β} (h:l=pre++y :: ys):eM (ba l) (pre.length:Int) f=f (y.toNat:Int):=by
 have:=CS (β:=β) (s:=ba l) (pre:=pre.map fun b=>(b.toNat:Int)) (ys:=ys.map fun b=>(b.toNat:Int)) (y:=(y.toNat:Int)) (f:=f) (by rw[Ws,h]; simp)
 rw[List.length_map] at this
 exact this
theorem qA {β:Type} {y:UInt8} {ys:aj} {f:Int→Option β}:eM (ba (y :: ys)) 0 f=f (y.toNat:Int):=lG (pre:=[]) rfl
theorem H0 {β:Type} {l:aj} {n:Nat} {f:aa_→Option β} (h:n≤l.length):Ez (ba l) (n:Int) f=f (ba (l.take n)):=by
 rw[abw (nn _) (by rw[aK]; omega),Ut]
 simp
theorem ge {β:Type} {l:aj} {n:Nat} {f:aa_→Option β} (h:n≤l.length):jv (ba l) (n:Int) f=f (ba (l.drop n)):=by
 rw[V0 (nn _) (by rw[aK]; omega),Ut,aK]
 simp
theorem zo {β:Type} {l:aj} {i j:Nat} {f:aa_→Option β} (h:i≤j) (hj:j≤l.length):wh (ba l) (i:Int) (j:Int) f=f (ba ((l.take j).drop i)):=by
 rw[abx (nn _) (by omega) (by rw[aK]; omega),Ut]
 simp
theorem bT {β:Type} {a b:aj} {f:aa_→Option β} (h:a.length+b.length≤9223372036854775807):cats (ba a) (ba b) f=f (ba (a++b)):=by
 rw[gj (by rw[aK,aK]; exact h),kN]
theorem xJ (s p:aj) (hs:s.length≤9223372036854775807):fk (ba s) (ba p)=some ((p.isPrefixOf s,()),()):=by
 rw[vm,aK,aK]
 by_cases h:p.length≤s.length
 ·rw[aJ (by omega),H0 h,dK]
  congr 3
  rw[bw_,ai_,dt_,List.prefix_iff_eq_take]
  exact eq_comm
 ·rw[aE (by omega)]
  congr 3
  symm
  rw[Bool.eq_false_iff]
  intro hp
  exact h (dt_.1 hp).length_le
theorem sY (s p:aj) (hs:s.length≤9223372036854775807):eF (ba s) (ba p)=some ((p.isPrefixOf s,()),()):=by
 rw[AA,xJ s p hs]
 rfl
theorem sZ (s p:aj) (hs:s.length≤9223372036854775807):cH (ba s) (ba p)=some ((ba (if p.isPrefixOf s=true then s.drop p.length else s),p.isPrefixOf s,()),()):=by
 rw[Az,vn,xJ s p hs]
 simp only[ab_]
 cases hp:p.isPrefixOf s with
 | false=>rfl
 | true =>
  have:=(dt_.1 hp).length_le
  simp only[bc_,ak_,av_,ba_,aK]
  rw[ge this]
  rfl
theorem xK (s c:aj) (hc:uS (ba c)=true):iZ (ba s) (ba c)=some ((ba (s.dropWhile (c.contains ·)),()),()):=by
 rw[BO]
 show(if uS (ba c)=true then some (((⟨(Lib.trimLeftS (lb (ba s)) (lb (ba c))).toArray⟩:aa_),()),()) else none)=_
 rw[ae_ hc,dl,dl]
 rfl
theorem Dc {α:Type} (p:α→Bool) (l:List α):l.take (l.length - (l.dropWhile p).length)=l.takeWhile p∧l.drop (l.length - (l.dropWhile p).length)=l.dropWhile p∧(l.dropWhile p).length≤l.length:=by
 have h:=List.takeWhile_append_dropWhile (p:=p) (l:=l)
 have hl:(l.takeWhile p).length+(l.dropWhile p).length=l.length:=by rw[←af_,h]
 have e:l.length - (l.dropWhile p).length=(l.takeWhile p).length:=by omega
 refine⟨?_,?_,by omega⟩
 ·rw[e]
  have:=List.take_left' (l₁:=l.takeWhile p) (l₂:=l.dropWhile p) rfl
  rw[h] at this
  exact this
 ·rw[e]
  have:=List.drop_left' (l₁:=l.takeWhile p) (l₂:=l.dropWhile p) rfl
  rw[h] at this
  exact this
theorem gY (c:UInt8) (l:aj) (a:UInt8):([a]:aj).isPrefixOf (c :: l)=decide (c=a):=by
 show(a == c && ([]:aj).isPrefixOf l)=_
 rw[show([]:aj).isPrefixOf l=true by cases l <;> rfl,er_,bw_,bx_,ai_]
 exact eq_comm
theorem F4 (c:UInt8) (t:aj):([c]:aj).isPrefixOf t=decide (t.head? = some c):=by
 cases t with
 | nil=>rfl
 | cons y t=>rw[gY]; simp
theorem F5 (y:UInt8) (t:aj) (a c:UInt8):([a,c]:aj).isPrefixOf (y :: t)=(decide (y=a) && decide (t.head? = some c)):=by
 show(a == y && ([c]:aj).isPrefixOf t)=_
 rw[F4]
 congr 1
 rw[bw_,bx_,ai_]
 exact eq_comm
theorem F6 (y c:UInt8) {n:Int} (hn:(c.toNat:Int)=n):((y.toNat:Int) == n)=decide (y=c):=by
 rw[bw_,bx_,ai_,←hn]
 constructor
 ·intro e
  apply UInt8.toNat_inj.1
  omega
 ·intro e
  rw[e]
theorem qB {p:UInt8→Prop} [DecidablePred p] (h : ∀ n:Fin 256,p (UInt8.ofNat n.val)) (c:UInt8):p c:=by
 have:=h ⟨c.toNat,c.toNat_lt⟩
 simpa using this
def eQ (c:UInt8):Bool:=decide (65≤c.toNat) && decide (c.toNat≤90)
def dw (c:UInt8):Bool:=decide (48≤c.toNat) && decide (c.toNat≤57)
def bS (a:Nat) (l:aj):Nat:=l.foldl (fun a c=>a*10+(c.toNat - 48)) a
theorem Dd (a:Nat) (l:aj) (c:UInt8):bS a (l++[c])=bS a l*10+(c.toNat - 48):=by simp[bS]
theorem H1 {u:Nat} (h:u < 10):az_ u=[UInt8.ofNat (48+u)]:=Lib.decDigits_one h
theorem OP {u:Nat} (h : ¬u < 10):az_ u=az_ (u / 10)++[UInt8.ofNat (48+u % 10)]:=by
 rw[az_,dif_neg h]
theorem Uu {x:Nat} (h:x < 10):(UInt8.ofNat (48+x)).toNat=48+x:=by
 rw[UInt8.toNat_ofNat']
 omega
theorem Wt {m x:aj} (h:m≠[]):(m++x).head? = m.head? := by
 cases m with
 | nil=>exact absurd rfl h
 | cons a m=>rfl
def ki (l:aj):Bool:=l.all dw && decide (1≤l.length) && (decide (l.length=1) || !decide (l.head? = some 48))
theorem OQ : ∀(n u:Nat),u≤n→bS 0 (az_ u)=u∧ki (az_ u)=true∧(10≤u→2≤(az_ u).length)∧(1≤u→(az_ u).head? ≠ some 48)
 | n,u,hn=>by
  by_cases h:u < 10
  ·rw[H1 h]
   have e:=Uu h
   refine⟨by simp[bS]; omega,?_,fun h2=>by omega,fun h1 h2 => ?_⟩
   ·simp only[ki,dw,cb_,List.all_nil,e]
    simp
    omega
   ·simp only[dg_,bd_] at h2
    rw[h2] at e
    have:(48:UInt8).toNat=48:=rfl
    omega
  ·cases n with
   | zero=>omega
   | succ n =>
    obtain⟨h1,h2,h3,h4⟩:=OQ n (u / 10) (by omega)
    rw[OP h,Dd,h1,Uu (Nat.mod_lt _ (by decide))]
    have h4:=h4 (by omega)
    simp only[ki,ag_,ai_] at h2
    obtain⟨⟨k1,k2⟩,k3⟩:=h2
    have hne:az_ (u / 10)≠[]:=by
     intro e
     rw[e] at k2
     simp at k2
    have hh:(az_ (u / 10)++[UInt8.ofNat (48+u % 10)]).head? ≠ some 48:=by
     rw[Wt hne]
     exact h4
    refine⟨by omega,?_,fun _=>by rw[af_,ad_]; omega,fun _=>hh⟩
    simp only[ki,cr_,k1,cb_,List.all_nil,dw,Uu (Nat.mod_lt u (show 0 < 10 by decide)),ag_,cx_,ai_]
    refine⟨⟨by simp; omega,by simp⟩,.inr (by simpa using hh)⟩
theorem ru (u:Nat):bS 0 (az_ u)=u:=(OQ u u (aq_ _)).1
theorem rx (u:Nat):ki (az_ u)=true:=(OQ u u (aq_ _)).2.1
theorem Sa {c:UInt8} (h:dw c=true):UInt8.ofNat (48+(c.toNat - 48))=c:=by
 simp only[dw,ag_,ai_] at h
 have:48+(c.toNat - 48)=c.toNat:=by omega
 rw[this]
 simp
theorem Sb : ∀(l:aj),ki l=true→az_ (bS 0 l)=l∧(l.head? ≠ some 48→1≤bS 0 l):=by
 intro l
 induction hn:l.length using Nat.strongRecOn generalizing l with
 | ind n ih =>
  intro h
  rcases List.eq_nil_or_concat l with rfl | ⟨m,c,rfl⟩
  ·simp[ki] at h
  ·rw[List.concat_eq_append] at *
   simp only[ki,ag_,cx_,ai_,cr_,cb_,List.all_nil,er_] at h
   obtain⟨⟨⟨k1,k0⟩,k2⟩,k3⟩:=h
   have kd:48≤c.toNat∧c.toNat≤57:=by simpa[dw] using k0
   rw[Dd]
   by_cases hm:m=[]
   ·subst hm
    have e:bS 0 []*10+(c.toNat - 48)=c.toNat - 48:=by simp[bS]
    rw[e,H1 (by omega),Sa k0]
    refine⟨rfl,fun hh => ?_⟩
    have:c.toNat≠48:=by
     intro e
     apply hh
     simp only[List.nil_append,dg_]
     congr 1
     exact UInt8.toNat_inj.1 e
    omega
   ·have hm1:1≤m.length:=List.length_pos_iff.2 hm
    have hh:(m++[c]).head? = m.head? := Wt hm
    have k4:m.head? ≠ some 48:=by
     rcases k3 with k3 | k3
     ·rw[af_,ad_] at k3
      omega
     ·rw[hh] at k3
      simpa using k3
    obtain⟨i1,i2⟩:=ih m.length (by rw[←hn,af_,ad_]; omega) m rfl (by
     simp only[ki,ag_,cx_,ai_]
     exact⟨⟨k1,hm1⟩,.inr (by simpa using k4)⟩)
    have i2:=i2 k4
    refine⟨?_,fun _=>by omega⟩
    rw[OP (by omega)]
    have e1:(bS 0 m*10+(c.toNat - 48)) / 10=bS 0 m:=by omega
    have e2:(bS 0 m*10+(c.toNat - 48)) % 10=c.toNat - 48:=by omega
    rw[e1,e2,i1,Sa k0]
theorem mK (u:Nat):di (u:Int)=ba (az_ u):=pE u
theorem D2 : ∀(l:aj) (a:Nat),l.all dw=true→bS a l < (a+1)*10 ^ l.length
 | [],a,_=>by simp[bS]
 | c :: l,a,h=>by
  simp only[cb_,ag_] at h
  have kd:48≤c.toNat∧c.toNat≤57:=by simpa[dw] using h.1
  have:=D2 l (a*10+(c.toNat - 48)) h.2
  show bS (a*10+(c.toNat - 48)) l < _
  refine Nat.lt_of_lt_of_le this ?_
  rw[aj_,Nat.pow_succ]
  have:a*10+(c.toNat - 48)+1≤(a+1)*10:=by omega
  calc (a*10+(c.toNat - 48)+1)*10 ^ l.length≤((a+1)*10)*10 ^ l.length:=Nat.mul_le_mul_right _ this
   _=(a+1)*(10 ^ l.length*10):=by rw[Nat.mul_assoc,Nat.mul_comm 10]
inductive dG {α:Type} (L:α→List α):α→α→Prop
 | one {i j:α} (h:j∈L i):dG L i j
 | more {i j k:α} (h:dG L i j) (m:k∈L j):dG L i k
theorem dG.trans {α:Type} {L:α→List α} {i j k:α} (h:dG L i j) (m:dG L j k):dG L i k:=by
 induction m with
 | one e=>exact .more h e
 | more _ e ih=>exact .more ih e
theorem dG.head {α:Type} {L:α→List α} {i j k:α} (h:j∈L i) (m:dG L j k):dG L i k:=dG.trans (.one h) m
theorem dG.inN {α:Type} {L:α→List α} {N:List α} (hN : ∀ i,∀ k∈L i,k∈N) {i j:α} (h:dG L i j):j∈N:=by
 cases h with
 | one e=>exact hN _ _ e
 | more _ e=>exact hN _ _ e
theorem dG.closed {α:Type} {L:α→List α} {Q:α→Prop} {i:α} (h0 : ∀ k∈L i,Q k) (hc : ∀ j,Q j → ∀ k∈L j,Q k) {j:α} (h:dG L i j):Q j:=by
 induction h with
 | one e=>exact h0 _ e
 | more _ e ih=>exact hc _ ih _ e
section
variable {α:Type} {L:α→List α} {N:List α}
open Classical in
noncomputable def vH (L:α→List α) (N:List α) (i:α):Nat:=(N.filter fun j=>decide (dG L i j)).length
open Classical in
theorem H2 (hN : ∀ i,∀ k∈L i,k∈N) {i k:α} (hk:k∈L i) (hc : ¬dG L k k):vH L N k < vH L N i:=by
 unfold vH
 refine Cc (fun y _ hy => ?_) ⟨k,hN i k hk,bb_ (.one hk),bf_ hc⟩
 exact bb_ (dG.head hk (of_decide_eq_true hy))
theorem YG (hN : ∀ i,∀ k∈L i,k∈N) {l:List α} (hl:l≠[]) (hc : ∀ i∈l,¬dG L i i) : ∃ i∈l,∀ k∈L i,k ∉ l:=by
 have key : ∀(n:Nat) (i:α),i∈l→vH L N i≤n → ∃ i∈l,∀ k∈L i,k ∉ l:=by
  intro n
  induction n with
  | zero =>
   intro i hi hn
   refine⟨i,hi,fun k hk hkl => ?_⟩
   have:=H2 hN hk (hc k hkl)
   omega
  | succ n ih =>
   intro i hi hn
   by_cases h : ∀ k∈L i,k ∉ l
   ·exact⟨i,hi,h⟩
   ·have : ∃ k,k∈L i∧k∈l:=by
     refine Classical.byContradiction fun hh=>h fun k hk hkl=>hh ⟨k,hk,hkl⟩
    obtain⟨k,hk,hkl⟩:=this
    have:=H2 hN hk (hc k hkl)
    exact ih k hkl (by omega)
 obtain⟨i,hi⟩:=List.exists_mem_of_ne_nil l hl
 exact key _ i hi (aq_ _)
end
def jU (a b:am):Bool:=decide (a.2.1 < b.2.1) || (decide (a.2.1=b.2.1) && decide (a.1 < b.1))
theorem De (a b:am):oV a b=some ((jU a b,()),()):=by
 rw[EY]
 unfold jU
 by_cases h1:a.2.1 < b.2.1
 ·simp[h1]
 ·by_cases h2:a.2.1=b.2.1 <;> simp[h1,h2]
theorem OS {a b c:am} (h:jU a b=true) (k:jU b c=true):jU a c=true:=by
 simp only[jU,cx_,ag_,ai_] at *
 omega
def tz:Option am→List am→Bool
 | _,[]=>true
 | none,b :: l=>tz (some b) l
 | some a,b :: l=>jU a b && tz (some b) l
theorem Le {o:Option am} {b:am} {l:List am}:tz o (b :: l)=((match o with | some a=>jU a b | none=>true) && tz (some b) l):=by
 cases o <;> simp[tz]
theorem Sc : ∀ {l:List am} {a:am},tz (some a) l=true→(∀ b∈l,jU a b=true)∧l.Pairwise fun a b=>jU a b=true
 | [],a,_=>⟨fun b hb=>(by cases hb),List.Pairwise.nil⟩
 | b :: l,a,h=>by
  simp only[tz,ag_] at h
  obtain⟨h1,h2⟩:=Sc h.2
  refine⟨fun c hc => ?_,ce_.2 ⟨h1,h2⟩⟩
  rcases bi_.1 hc with rfl | hc
  ·exact h.1
  ·exact OS h.1 (h1 c hc)
theorem Wu {l:List am} (h:tz none l=true):l.Pairwise fun a b=>jU a b=true:=by
 cases l with
 | nil=>exact List.Pairwise.nil
 | cons a l =>
  obtain⟨h1,h2⟩:=Sc (l:=l) (a:=a) h
  exact ce_.2 ⟨h1,h2⟩
def lj (l:List ah):Bool:=decide ((l.length:Int)≤120) && ((l.all fun c=>bM c.1 && az c.2.1) && tz none (l.map (·.1)))
theorem aao {α:Type} {pre:List α} (h:pre≠[]) : ∃ q p,pre=q++[p]:=⟨pre.dropLast,pre.getLast h,(List.dropLast_concat_getLast h).symm⟩
section
variable {xs:List ah} (hl:xs.length≤10000000) (hs : ∀ c∈xs,c.2.1.2.2.1.size≤9223372036854775807)
include hl hs
theorem zp : ∀(ys pre:List ah),xs=pre++ys→mA xs (pre.length:Int)=some (((ys.all fun c=>bM c.1 && az c.2.1) && tz (pre.getLast?.map (·.1)) (ys.map (·.1)),()),())
 | [],pre,he=>by
  rw[wL,aE (br he)]
  simp[tz]
 | y :: ys,pre,he=>by
  have ih:=zp ys _ (aC he)
  have hy:=hs y (by rw[he]; simp)
  rw[wL,aJ (bF he)]
  simp only[bK he,kW,fA hy,ab_,aM he (by omega),ih]
  simp only[cb_,dc_,Le,ff_,es_,gm_,dz_]
  cases bM y.1 with
  | false=>simp
  | true =>
   cases az y.2.1 with
   | false=>simp
   | true =>
    by_cases hp:pre=[]
    ·subst hp
     simp
    ·obtain⟨q,p,rfl⟩:=aao hp
     have hq:xs=q++p :: (y :: ys):=by rw[he]; simp
     have hw:(((q++[p]).length:Nat):Int) - 1=(q.length:Int):=by simp
     have h0:((q++[p]).length:Int) > 0:=by rw[af_,ad_]; omega
     simp only[hw,bb_ h0,ba_,bc_,ak_,av_]
     rw[fW (by omega) (by have:=bF hq; omega),bK hq,De,ab_]
     simp only[ff_,es_,gm_,dz_,bt_]
     cases jU p.1 y.1 <;> simp
theorem OT:CL xs=some ((lj xs,()),()):=by
 rw[Oz]
 unfold lj
 by_cases h:(xs.length:Int) > 120
 ·rw[aJ h,bf_ (by omega)]
  rfl
 ·rw[aE h,bb_ (by omega)]
  have:=zp hl hs xs [] rfl
  simpa using this
end
theorem Uv {a b:am}:(bq au a b=true)=(a=b):=propext (kJ rfl)
def f8:List ah→am→ac
 | [],_=>v0
 | c :: l,r=>if c.1=r then c.2.1 else f8 l r
section
variable {xs:List ah} (hl:xs.length≤10000000)
include hl
theorem H3 {r:am} {a b:Int} {s:aa_} : ∀(ys pre:List ah),xs=pre++ys→Av xs (pre.length:Int) r.1 r.2.1 a b s=some ((f8 ys r,()),())
 | [],pre,he=>by
  rw[E1,aE (br he)]
  rfl
 | y :: ys,pre,he=>by
  rw[E1,aJ (bF he),bK he,bK he,aM he (by omega),H3 ys _ (aC he)]
  show(if bq au y.1 r=true then _ else _)=_
  rw[f8]
  by_cases h:y.1=r
  ·rw[ae_ (by rw[Uv]; exact h),ae_ h]
  ·rw[ac_ (by rw[Uv]; exact h),ac_ h]
theorem OU (r:am):MI xs r=some ((f8 xs r,()),()):=by
 rw[Yu]
 exact H3 hl xs [] rfl
theorem Df {r:am} {a b:Int} {s:aa_} : ∀(ys pre:List ah),xs=pre++ys→tX xs (xs.length:Int) (pre.length:Int) r.1 r.2.1 a b s=some ((f8 ys r,()),())
 | [],pre,he=>by
  rw[Bz,aE (br he)]
  rfl
 | y :: ys,pre,he=>by
  rw[Bz,aJ (bF he),bK he,aM he (by omega),Df ys _ (aC he)]
  show(if bq au y.1 r=true then _ else _)=_
  rw[f8]
  by_cases h:y.1=r
  ·rw[ae_ (by rw[Uv]; exact h),ae_ h]
  ·rw[ac_ (by rw[Uv]; exact h),ac_ h]
theorem H4 (r:am):Jc xs r=some ((f8 xs r,()),()):=by
 rw[TX]
 exact Df hl xs [] rfl
end
theorem OV:az v0=true:=by decide
theorem AP : ∀ {l:List ah} {r:am},(∀ c∈l,az c.2.1=true)→az (f8 l r)=true
 | [],r,_=>OV
 | c :: l,r,h=>by
  unfold f8
  split
  ·exact h c (ep_ ..)
  ·exact AP fun d hd=>h d (ar_ _ hd)
theorem mL {l:List ah} (h:lj l=true) : ∀ c∈l,az c.2.1=true:=by
 unfold lj at h
 simp only[ag_,cl_] at h
 exact fun c hc=>(h.2.1 c hc).2
theorem nu {n:Int} (h0:1≤n) (h1:n≤5):az (vE n)=true:=by
 unfold az vE
 simp[cu]
 omega
theorem zq {n:Int} (h0 : -1000000000000000≤n) (h1:n≤1000000000000000):az (vN n)=true:=by
 unfold az vN
 simp[cu]
 omega
theorem Sd (b:Bool):az (vB b)=true:=by cases b <;> decide
theorem Uw (n:Int):az (bnd n)=true:=by
 unfold bnd
 split
 ·have:=bm.1 ‹_›
  exact zq this.1 this.2
 ·exact nu (by decide) (by decide)
theorem nv (v:ac):az (ig v)=true:=by
 unfold ig
 split
 ·split
  ·assumption
  ·exact nu (by decide) (by decide)
 ·exact nu (by decide) (by decide)
theorem MJ {f:Int→Int→ac} (hf : ∀ x y,az (f x y)=true) (a b:ac):az (qY f a b)=true:=by
 unfold qY
 split
 ·split
  ·exact hf _ _
  ·exact nv _
 ·exact nv _
theorem D3 (a b:ac):az (kg a b)=true:=MJ (fun _ _=>Uw _) a b
theorem Ux (a b:ac):az (AI a b)=true:=MJ (fun _ _=>Uw _) a b
theorem ZL (a b:ac):az (JB a b)=true:=MJ (fun x y=>by
 unfold Ul
 split
 ·exact zq (by omega) (by omega)
 ·exact nu (by decide) (by decide)) a b
theorem ZM (a b:ac):az (Jy a b)=true:=MJ (fun x y=>by
 split
 ·exact nu (by decide) (by decide)
 ·exact Uw _) a b
theorem ZN (a:ac):az (FZ a)=true:=Ux _ _
theorem Wv : ∀(n u:Nat),u≤n → ∀ b∈az_ u,48≤b.toNat∧b.toNat≤57:=by
 intro n
 induction n with
 | zero =>
  intro u h b hb
  rw[az_,dif_pos (by omega)] at hb
  rw[be_.1 hb]
  have:u=0:=by omega
  subst this
  decide
 | succ n ih =>
  intro u h b hb
  rw[az_] at hb
  split at hb
  ·rename_i h10
   rw[be_.1 hb]
   simp only[UInt8.toNat_ofNat']
   omega
  ·rcases List.mem_append.1 hb with hb | hb
   ·exact ih (u / 10) (by omega) b hb
   ·rw[be_.1 hb]
    simp only[UInt8.toNat_ofNat']
    omega
theorem abB (l:List UInt8):nK ⟨l.toArray⟩=l.map fun b=>(b.toNat:Int):=by simp[nK]
theorem Uy (n:Int):plain (di n)=true:=by
 have hu : ∀ u:Nat,plain ⟨(az_ u).toArray⟩=true:=by
  intro u
  unfold plain
  rw[abB,cl_]
  intro x hx
  obtain⟨b,hb,rfl⟩:=List.mem_map.1 hx
  have:=Wv u u (aq_ _) b hb
  unfold sV
  simp
  omega
 by_cases h:n < 0
 ·rw[wZ h,show -n=((-n).toNat:Int) by omega,pE]
  have:=hu (-n).toNat
  unfold plain at this ⊢
  rw[Ht,cr_,this]
  decide
 ·rw[show n=(n.toNat:Int) by omega,pE]
  exact hu _
theorem Lf {a b:aa_}:plain (a++b)=(plain a && plain b):=by
 unfold plain
 rw[Ht,cr_]
theorem Uz (n:Int):plain (cX n)=true:=by
 have h : ∀ i:Nat,i < 6→plain (YC.getD i eS)=true:=by decide
 unfold cX
 by_cases hn:n.toNat < 6
 ·exact h _ hn
 ·rw[ao_,cj_ (by show 6≤n.toNat; omega)]
  decide
theorem OW {v:ac} (h:az v=true) (k:v.1=2):v.2.1=0∧plain v.2.2.1=true∧v.2.2.1.size≤200:=by
 unfold az at h
 rw[ae_ k] at h
 simp only[ag_,ai_] at h
 exact⟨h.1,h.2.1,by omega⟩
theorem H5 {v:ac} (h:az v=true):plain (bG v)=true:=by
 unfold bG
 split
 ·exact Uy _
 ·split
  ·rw[Lf,(OW h ‹_›).2.1]
   decide
  ·split
   ·unfold w5
    split <;> decide
   ·split
    ·exact Uz _
    ·decide
theorem Lg {v:ac} (h:az v=true):plain (pF v)=true:=by
 unfold pF
 split
 ·exact(OW h ‹_›).2.1
 ·exact H5 h
theorem okT {s:aa_} (h:plain s=true) (k:s.size≤200):az (vT s)=true:=by
 unfold az vT
 simp[h]
 omega
theorem Ww (a b:ac):az (AM a b)=true:=by
 unfold AM
 split
 ·split
  ·split
   ·exact nu (by decide) (by decide)
   ·rename_i h1 h2 h3
    refine okT ?_ (by rw[size_append]; omega)
    rw[Lf,Lg (uu h1),Lg (uu h2)]
    rfl
  ·exact nv _
 ·exact nv _
theorem Wx (op:Int) (a b:ac):az (AN op a b)=true:=by
 unfold AN
 split
 ·split
  ·split
   ·split
    ·assumption
    ·split
     ·assumption
     ·exact Sd _
   ·exact nu (by decide) (by decide)
  ·exact nu (by decide) (by decide)
 ·exact nu (by decide) (by decide)
def eH (v:ac):Bool:=az v && (decide (v.1=0) || decide (v.1=1) || decide (v.1=3))
theorem lQ {v:ac} (h:v.2.2.1.size≤9223372036854775807):oX v=some ((decide (v.2.1≠0),eH v,()),()):=by
 rw[QU]
 unfold eH
 simp only[fB h,ab_,bx_]
 have hb:(v.2.1 != 0)=decide (v.2.1≠0):=by by_cases h:v.2.1=0 <;> simp[h]
 rw[hb]
 cases az v
 ·rfl
 ·by_cases h0:v.1=0
  ·simp[h0]
  ·by_cases h1:v.1=1
   ·simp[h1]
   ·simp[h0,h1,pc]
theorem ue {v:ac} (h:az v=true):py v=some ((if eH v=true then decide (v.2.1≠0) else false,if eH v=true then v0 else ig v,()),()):=by
 rw[T5]
 unfold eH ig
 simp only[dQ,ab_,bx_,h,ba_,bt_]
 rcases uc h with k | k | k | k | k
 ·have:v.2.1=0:=by
   unfold az at h
   rw[ac_ (by omega),ae_ k] at h
   simp only[ag_,ai_] at h
   exact h.2
  simp[k,this,v0]
 ·have hb:(v.2.1 != 0)=decide (v.2.1≠0):=by by_cases h:v.2.1=0 <;> simp[h]
  simp[k,hb,v0]
 ·simp[k]
 ·have:=zn h k
  have:v.2.1=0∨v.2.1=1:=by omega
  rcases this with h1 | h1 <;> simp[k,h1,v0]
 ·simp[k]
def Dg (a:Bool):List ac→Bool→Bool→ac
 | [],all,one=>vB (if a=true then all else one)
 | v :: l,all,one=>if eH v=true then Dg a l (all && decide (v.2.1≠0)) (one || decide (v.2.1≠0)) else ig v
def vI:List ac→ac→ac
 | [],s=>s
 | v :: l,s=>if v.1=4 then v else if v.1=1 then(if(kg s v).1=4 then kg s v else vI l (kg s v)) else vI l s
def nT (op:Int):List ac→Int→Int→Int→ac
 | [],l,m,c=>if op=2 then vN l else if op=3 then vN m else vN c
 | v :: t,l,m,c=>if v.1=4∧op≠4 then v else if v.1=1 then(if c=0 then nT op t v.2.1 v.2.1 1 else nT op t (if v.2.1 < l then v.2.1 else l) (if m < v.2.1 then v.2.1 else m) (c+1)) else nT op t l m c
theorem OX (a:Bool) (v:ac) (l:List ac) (all one:Bool):Dg a (v :: l) all one=if eH v=true then Dg a l (all && decide (v.2.1≠0)) (one || decide (v.2.1≠0)) else ig v:=rfl
theorem Lh (v:ac) (l:List ac) (s:ac):vI (v :: l) s=if v.1=4 then v else if v.1=1 then(if(kg s v).1=4 then kg s v else vI l (kg s v)) else vI l s:=rfl
theorem Li (op:Int) (v:ac) (t:List ac) (l m c:Int):nT op (v :: t) l m c=if v.1=4∧op≠4 then v else if v.1=1 then(if c=0 then nT op t v.2.1 v.2.1 1 else nT op t (if v.2.1 < l then v.2.1 else l) (if m < v.2.1 then v.2.1 else m) (c+1)) else nT op t l m c:=rfl
section
variable {xs:List ac} (hl:xs.length≤100000000) (hv : ∀ v∈xs,az v=true)
include hl hv
theorem zr {op:Int} {p q:Int} {s:aa_} : ∀(ys pre:List ac) (all one:Bool),xs=pre++ys→je op all one xs (xs.length:Int) (pre.length:Int) p q s=some ((Dg (decide (op=6)) ys all one,()),())
 | [],pre,all,one,he=>by
  rw[wI,aE (br he)]
  by_cases h:op=6 <;> simp[h,mI,Dg]
 | y :: ys,pre,all,one,he=>by
  have hy:=hv y (by rw[he]; simp)
  rw[wI,aJ (bF he),bK he,lQ (cg hy),ab_,aM he (by omega)]
  simp only[zr ys _ _ _ (aC he),fd (cg hy),ab_]
  rw[OX]
  cases eH y
  ·simp
  ·cases all <;> cases one <;> simp
theorem Dh (op:Int):kU op xs=some ((Dg (decide (op=6)) xs true false,()),()):=by
 rw[Ov]
 exact zr hl hv xs [] true false rfl
theorem vJ {p q:Int} {u:aa_} : ∀(ys pre:List ac) (s:ac),xs=pre++ys→az s=true→s.1≠4→qn xs (xs.length:Int) (pre.length:Int) p q u s.1 s.2.1 s.2.2.1=some ((vI ys s,()),())
 | [],pre,s,he,hs,h4=>by
  rw[BA,aE (br he)]
  rfl
 | y :: ys,pre,s,he,hs,h4=>by
  have hy:=hv y (by rw[he]; simp)
  rw[BA,aJ (bF he),bK he,aM he (by omega)]
  show(if(y.1 == 4)=true then _ else if(y.1 == 1)=true then(NQ s y).bind _ else _)=_
  rw[JA (cg hs) (cg hy),ab_]
  rw[Lh]
  by_cases k4:y.1=4
  ·simp[k4]
  ·by_cases k1:y.1=1
   ·by_cases ka:(kg s y).1=4
    ·simp[k1,ka]
    ·simp only[k1,ka,bx_,ba_,av_]
     rw[ac_ (by decide),ac_ (by decide)]
     exact vJ ys _ (kg s y) (aC he) (D3 _ _) ka
   ·simp only[k4,k1,h4,bx_,av_]
    exact vJ ys _ s (aC he) hs h4
theorem H6:pv xs=some ((vI xs (vN 0),()),()):=by
 rw[T0,iv,ab_]
 exact vJ hl hv xs [] (vN 0) rfl (zq (by decide) (by decide)) (by decide)
theorem zt {op:Int} {p q:Int} {u:aa_} : ∀(ys pre:List ac) (l m c:Int),xs=pre++ys→0≤c→c≤pre.length→fH op l m c xs (xs.length:Int) (pre.length:Int) p q u=some ((nT op ys l m c,()),())
 | [],pre,l,m,c,he,h0,h1=>by
  rw[wJ,aE (br he)]
  unfold nT
  by_cases h2:op=2
  ·simp[h2,iv]
  ·by_cases h3:op=3 <;> simp[h2,h3,iv]
 | y :: ys,pre,l,m,c,he,h0,h1=>by
  have hlt:=bF he
  have ih:=fun l m c h0 h1=>zt (op:=op) (p:=p) (q:=q) (u:=u) ys _ l m c (aC he) h0 h1
  rw[wJ,aJ hlt,bK he,aM he (by omega)]
  rw[wr (n:=c+1) (by omega) (by omega)]
  have hp:((pre++[y]).length:Int)=pre.length+1:=by simp
  generalize ((pre++[y]).length:Int)=w at ih hp ⊢
  rw[Li]
  simp only[bx_,bne_iff_ne,ne_eq]
  by_cases hc:c=0
  ·subst hc
   have e1:=ih y.2.1 y.2.1 1 (by decide) (by omega)
   have e2:=ih l m 0 (by decide) (by omega)
   by_cases k4:y.1=4
   ·by_cases o4:op=4
    ·simp[k4,o4]
     rw[←o4]
     exact e2
    ·simp[k4,o4]
   ·by_cases k1:y.1=1
    ·simp[k1]
     exact e1
    ·simp[k4,k1]
     exact e2
  ·have e1:=ih (if y.2.1 < l then y.2.1 else l) (if m < y.2.1 then y.2.1 else m) (c+1) (by omega) (by omega)
   have e2:=ih l m c h0 (by omega)
   by_cases k4:y.1=4
   ·by_cases o4:op=4
    ·simp[k4,o4]
     rw[←o4]
     exact e2
    ·simp[k4,o4]
   ·by_cases k1:y.1=1
    ·simp[k1,hc]
     exact e1
    ·simp[k4,k1]
     exact e2
theorem Di (op:Int):kV op xs=some ((nT op xs 0 0 0,()),()):=by
 rw[Ow]
 exact zt hl hv xs [] 0 0 0 rfl (by decide) (by decide)
theorem OY {op:Int} (ho:op=6∨op=7) {p q c k n:Int} {u t:aa_} : ∀(ys pre:List ac) (all one:Bool),xs=pre++ys→bC op xs c all one (pre.length:Int) p q u k n t=some ((Dg (decide (op=6)) ys all one,()),())
 | [],pre,all,one,he=>by
  rw[jH,aE (br he)]
  rcases ho with rfl | rfl <;> simp[t7,Dg]
 | y :: ys,pre,all,one,he=>by
  have hy:=hv y (by rw[he]; simp)
  have ih:=fun all one=>OY ho (p:=p) (q:=q) (c:=c) (k:=k) (n:=n) (u:=u) (t:=t) ys _ all one (aC he)
  rw[jH,aJ (bF he),bK he,ue hy,ab_,aM he (by omega)]
  simp only[ih]
  rw[OX]
  rcases ho with rfl | rfl
  ·cases it:eH y
   ·have:=cT y
    simp[this]
   ·cases all <;> cases one <;> simp[v0]
  ·cases it:eH y
   ·have:=cT y
    simp[this]
   ·cases all <;> cases one <;> simp[v0]
theorem F7 {p q:Int} {u:aa_} : ∀(ys pre:List ac) (s:ac) (c:Int),xs=pre++ys→az s=true→0≤c→c≤pre.length→bC 1 xs c true false (pre.length:Int) p q u s.1 s.2.1 s.2.2.1=some ((vI ys s,()),())
 | [],pre,s,c,he,hs,c0,c1=>by
  rw[jH,aE (br he)]
  rfl
 | y :: ys,pre,s,c,he,hs,c0,c1=>by
  have hlt:=bF he
  have hy:=hv y (by rw[he]; simp)
  rw[jH,aJ hlt,bK he,aM he (by omega),wr (n:=c+1) (by omega) (by omega)]
  have hsy:FP (s.1,s.2.1,s.2.2.1,()) y=some ((kg s y,()),()):=Jz (cg hs) (cg hy)
  have e2:=F7 (p:=p) (q:=q) (u:=u) ys _ s c (aC he) hs c0 (by rw[af_,ad_]; omega)
  have e1:=F7 (p:=p) (q:=q) (u:=u) ys _ (kg s y) (c+1) (aC he) (D3 _ _) (by omega) (by rw[af_,ad_]; omega)
  simp only[hsy,ab_,e1,e2]
  rw[Lh]
  by_cases k4:y.1=4
  ·simp[k4]
  ·by_cases k1:y.1=1
   ·by_cases ka:(kg s y).1=4 <;> simp[k1,ka]
   ·simp[k4,k1]
theorem YH {v:ac} (h:az v=true) (k:v.1=1):v=vN v.2.1:=by
 unfold az at h
 rw[ac_ (by omega)] at h
 simp only[ag_,ai_] at h
 obtain⟨a,b,c,⟨⟩⟩:=v
 simp only at h k
 rw[k,h.1]
 rfl
set_option maxHeartbeats 2000000 in
theorem OZ {op:Int} (ho:op=2∨op=3∨op=4) {p q:Int} {u:aa_} : ∀(ys pre:List ac) (l m c n:Int),xs=pre++ys→0≤c→c≤pre.length→c≤1000000000→(op=2→n=l)→(op=3→n=m)→bC op xs c true false (pre.length:Int) p q u 1 n eS=some ((nT op ys l m c,()),())
 | [],pre,l,m,c,n,he,h0,h1,h9,n2,n3=>by
  rw[jH,aE (br he)]
  unfold nT
  rcases ho with rfl | rfl | rfl
  ·rw[n2 rfl]
   rfl
  ·rw[n3 rfl]
   rfl
  ·have:bnd c=vN c:=by
    unfold bnd
    rw[ae_ (bm.2 (by omega))]
   simp[kX,this]
 | y :: ys,pre,l,m,c,n,he,h0,h1,h9,n2,n3=>by
  have hlt:=bF he
  have hy:=hv y (by rw[he]; simp)
  have hp:((pre++[y]).length:Int)=pre.length+1:=by simp
  have ih:=fun l m c n h0 h1 h9 n2 n3=>OZ ho (p:=p) (q:=q) (u:=u) ys _ l m c n (aC he) h0 h1 h9 n2 n3
  rw[jH,aJ hlt,bK he,aM he (by omega),wr (n:=c+1) (by omega) (by omega)]
  generalize ((pre++[y]).length:Int)=w at ih hp ⊢
  rw[Li]
  simp only[bx_,bne_iff_ne,ne_eq]
  by_cases k4:y.1=4
  ·rcases ho with rfl | rfl | rfl
   ·simp[k4]
   ·simp[k4]
   ·simp[k4]
    exact ih l m c n h0 (by omega) h9 (by simp) (by simp)
  ·by_cases k1:y.1=1
   ·have hyv:=YH hl hv hy k1
    have hyS:y.2.2.1=eS:=by rw[hyv]; rfl
    simp only[k1,hyS,not_true,av_,ba_]
    by_cases hc:c=0
    ·subst hc
     rcases ho with rfl | rfl | rfl
     ·simp
      exact ih y.2.1 y.2.1 1 y.2.1 (by decide) (by omega) (by decide) (fun _=>rfl) (by simp)
     ·simp
      exact ih y.2.1 y.2.1 1 y.2.1 (by decide) (by omega) (by decide) (by simp) (fun _=>rfl)
     ·simp
      exact ih y.2.1 y.2.1 1 y.2.1 (by decide) (by omega) (by decide) (by simp) (by simp)
    ·have hc1 : ¬c+1=1:=by omega
     rcases ho with rfl | rfl | rfl
     ·have:=n2 rfl
      subst this
      by_cases hlt2:y.2.1 < n
      ·simp[hc,hc1,hlt2]
       exact ih _ _ (c+1) y.2.1 (by omega) (by omega) (by omega) (fun _=>rfl) (by simp)
      ·simp[hc,hc1,hlt2]
       exact ih _ _ (c+1) n (by omega) (by omega) (by omega) (fun _=>rfl) (by simp)
     ·have:=n3 rfl
      subst this
      by_cases hlt2:n < y.2.1
      ·simp[hc,hc1,hlt2]
       exact ih _ _ (c+1) y.2.1 (by omega) (by omega) (by omega) (by simp) (fun _=>rfl)
      ·simp[hc,hc1,hlt2]
       exact ih _ _ (c+1) n (by omega) (by omega) (by omega) (by simp) (fun _=>rfl)
     ·simp[hc,hc1]
      exact ih _ _ (c+1) n (by omega) (by omega) (by omega) (by simp) (by simp)
   ·rcases ho with rfl | rfl | rfl <;> simp[k4,k1]
    ·exact ih l m c n h0 (by omega) h9 n2 (by simp)
    ·exact ih l m c n h0 (by omega) h9 (by simp) n3
    ·exact ih l m c n h0 (by omega) h9 (by simp) (by simp)
def AQ (op:Int) (xs:List ac):ac:=if op=6∨op=7 then Dg (decide (op=6)) xs true false else if op=1 then vI xs (vN 0) else nT op xs 0 0 0
theorem UA {op:Int} (ho:op=1∨op=2∨op=3∨op=4∨op=6∨op=7):Jg op xs=some ((AQ op xs,()),()):=by
 rw[T9]
 unfold AQ
 by_cases h6:op=6∨op=7
 ·rw[ae_ h6]
  exact OY hl hv h6 xs [] true false rfl
 ·rw[ac_ h6]
  by_cases h1:op=1
  ·subst h1
   exact F7 hl hv xs [] (vN 0) 0 rfl (zq (by decide) (by decide)) (by decide) (by decide)
  ·rw[ac_ h1]
   exact OZ hl hv (by omega) xs [] 0 0 0 0 rfl (by decide) (by decide) (by decide) (fun _=>rfl) (fun _=>rfl)
end
theorem Wy {a:Bool} : ∀ {l:List ac} {p q:Bool},az (Dg a l p q)=true
 | [],p,q=>Sd _
 | v :: l,p,q=>by
  unfold Dg
  split
  ·exact Wy
  ·exact nv _
theorem JE : ∀ {l:List ac} {s:ac},(∀ v∈l,az v=true)→az s=true→az (vI l s)=true
 | [],s,_,h=>h
 | v :: l,s,hv,h=>by
  unfold vI
  split
  ·exact hv v (ep_ ..)
  ·split
   ·split
    ·exact D3 _ _
    ·exact JE (fun w hw=>hv w (ar_ _ hw)) (D3 _ _)
   ·exact JE (fun w hw=>hv w (ar_ _ hw)) h
theorem D4 {op:Int} : ∀ {t:List ac} {l m c:Int},(∀ v∈t,az v=true)→(-1000000000000000≤l∧l≤1000000000000000)→(-1000000000000000≤m∧m≤1000000000000000)→(0≤c∧c+t.length≤1000000000000000)→az (nT op t l m c)=true
 | [],l,m,c,hv,hl,hm,hc=>by
  unfold nT
  simp only[List.length_nil] at hc
  split
  ·exact zq hl.1 hl.2
  ·split
   ·exact zq hm.1 hm.2
   ·exact zq (by omega) (by omega)
 | v :: t,l,m,c,hv,hl,hm,hc=>by
  have hvv:=hv v (ep_ ..)
  have hvt:=fun w hw=>hv w (ar_ _ hw)
  simp only[aj_] at hc
  unfold nT
  split
  ·exact hvv
  ·split
   ·have:=rs hvv ‹_›
    split
    ·exact D4 hvt this this (by omega)
    ·refine D4 hvt ?_ ?_ (by omega)
     ·split <;> omega
     ·split <;> omega
   ·exact D4 hvt hl hm (by omega)
theorem O0 {op:Int} {xs:List ac} (hv : ∀ v∈xs,az v=true) (hl:xs.length≤100000000):az (AQ op xs)=true:=by
 unfold AQ
 split
 ·exact Wy
 ·split
  ·exact JE hv (zq (by decide) (by decide))
  ·exact D4 hv (by decide) (by decide) (by omega)
end Go.Proofs.YthbkdfcmjmmpgaaGreatDoor.Abs
