/- Values: products, texts, order. -/
import Derived.Test.YtfffplonjaigkaaGreatDoorZM4
set_option linter.unusedVariables false
set_option linter.unusedSimpArgs false
set_option linter.unusedSectionVars false
open Bool renaming and_eq_true→S8,and_true→cy_,eq_iff_iff→Y7,false_eq_true→S9,not_true→V6,or_eq_true→bd_
open ByteArray renaming size→U1,toList→S2
open Go.IntKind renaming i64→ea_,wrap→dz_
open Go.Lib renaming decDigits→U8
open Int renaming le_refl→af_,tmod→cg_,toNat_natCast→bg_,toNat_of_nonneg→ak_
open List renaming all_append→bi_,all_cons→an_,all_eq_true→Z2,append_nil→W9,cons_append→be_,drop_succ_cons→X5,drop_zero→Z7,getD_eq_getElem?_getD→V9,getElem?_eq_getElem→T9,getElem?_eq_some_iff→U0,head?_cons→ah_,isPrefixOf_iff_prefix→ay_,length_append→S5,length_cons→T3,length_drop→bu_,length_nil→V3,length_reverse→ds_,length_singleton→S3,length→T5,mem_cons→U7,mem_of_getElem?→W4,takeWhile_append_dropWhile→cu_,take_left'→du_
open List.cons renaming inj→ce_
open Nat renaming le_refl→T7,le_trans→W7,lt_of_lt_of_le→X1,pow_le_pow_right→cn_,zero_le→aa_
open Option renaming bind_eq_some_iff→S7,bind_some→S1,getD_some→Z6,map_some→bc_
open Option.some renaming injEq→U3,inj→X0
open Prod.mk renaming injEq→cx_
open _root_ renaming ByteArray→S0,absurd→V2,beq_iff_eq→X3,decide_eq_false→U9,decide_eq_true_eq→T0,decide_eq_true→U2,decide_false→Z0,if_false→U6,if_neg→S4,if_pos→S6,if_true→V4
namespace Go.Proofs.YtfffplonjaigkaaGreatDoor.Abs
open Go
section
variable {a b:aI} (ha:a.2.2.1.size≤9223372036854775807) (hb:b.2.2.1.size≤9223372036854775807)
include ha hb
end
theorem Sc {n:Int} (h0:0≤n) (h1:n≤255):IntKind.u8.wrap n=n:=by
 simp only[IntKind.wrap,IntKind.bits,IntKind.signed]
 simp
 omega
theorem BM : ∀(k u:Nat),u < 10 ^ (k+1)→(U8 u).length≤k+1
 | 0,u,h=>by
  have h:u < 10:=by simpa using h
  rw[U8,dif_pos h]
  simp
 | k+1,u,h=>by
  rw[U8]
  split
  ·simp
  ·have:=BM k (u / 10) (by rw[Nat.pow_succ] at h; exact Nat.div_lt_of_lt_mul (by omega))
   rw[S5]
   simp only[S3]
   omega
theorem pg {x:Nat} (h:x < 10):strOfNums ([IntKind.u8.wrap (dz_ ea_ (48+(x:Int)))]:List Int)=⟨#[UInt8.ofNat (48+x)]⟩:=by
 rw[wr (by omega) (by omega),Sc (by omega) (by omega)]
 unfold strOfNums
 simp only[List.map_cons,List.map_nil]
 congr 3
theorem tM {a b:S0} (h:a.data.toList=b.data.toList):a=b:=by
 cases a; cases b
 congr 1
 exact Array.toList_inj.1 h
theorem xu : ∀(n u:Nat) (acc:S0),u≤n→u≤9223372036854775807→acc.size+n≤9223372036854775806→n7 (u:Int) acc=some ((⟨(U8 u).toArray⟩++acc,()),()):=by
 intro n
 induction n with
 | zero =>
  intro u acc h1 h2 h3
  have:u=0:=by omega
  subst this
  rw[qB,ax (by decide),show((0:Nat):Int)=((0:Nat):Int) from rfl,pg (x:=0) (by decide),dg (by simp only[U1]; simp; have:acc.data.size=acc.size:=rfl; omega)]
  rw[U8,dif_pos (by decide)]
 | succ n ih =>
  intro u acc h1 h2 h3
  rw[qB]
  have hs : ∀ c:UInt8,(⟨#[c]⟩:S0).size=1:=fun _=>rfl
  by_cases h:u < 10
  ·rw[ax (by omega),pg h,dg (by rw[hs]; omega)]
   rw[U8,dif_pos h]
  ·have e1:cg_ (u:Int) 10=((u % 10:Nat):Int):=by
    rw[Int.tmod_eq_emod_of_nonneg (by omega)]
    omega
   have e2:Int.tdiv (u:Int) 10=((u / 10:Nat):Int):=by
    rw[Int.tdiv_eq_ediv_of_nonneg (by omega)]
    omega
   rw[aC (by omega),e1,e2,pg (Nat.mod_lt _ (by decide)),dg (by rw[hs]; omega),wr (by omega) (by omega),ih (u / 10) _ (by omega) (by omega) (by rw[size_append,hs]; omega)]
   conv=>rhs; rw[U8,dif_neg h]
   congr 3
   apply tM
   simp
theorem rH (u:Nat):d8 (u:Int)=⟨(U8 u).toArray⟩:=by
 unfold d8 Lib.itoa
 rw[S4 (by omega)]
 simp
theorem xv {n:Int} (h:n < 0):d8 n=⟨#[45]⟩++d8 (-n):=by
 unfold d8 Lib.itoa
 rw[S6 h,S4 (by omega)]
 apply tM
 simp
 congr 1
 omega
theorem CV {u:Nat} (h:u≤9223372036854775807):(⟨(U8 u).toArray⟩:S0).size≤19:=by
 have:=BM 18 u (by omega)
 simpa[U1] using this
theorem dR {n:Int} (h0 : -9223372036854775807≤n) (h1:n≤9223372036854775807):(d8 n).size≤20:=by
 by_cases h:n < 0
 ·rw[xv h,size_append,show -n=((-n).toNat:Int) by omega,rH]
  have:=CV (u:=(-n).toNat) (by omega)
  have h1:(⟨#[45]⟩:S0).size=1:=rfl
  omega
 ·rw[show n=(n.toNat:Int) by omega,rH]
  have:=CV (u:=n.toNat) (by omega)
  omega
theorem BN {u:Nat} (h:u≤9223372036854775807):cQ (u:Int)=some ((d8 (u:Int),()),()):=by
 have h19:=CV h
 rw[D2,ax (by omega),rH]
 have h2 : ∀ acc:S0,acc.size=0→n7 (u:Int) acc=some ((⟨(U8 u).toArray⟩++acc,()),()):=by
  intro acc ha
  by_cases hu:u≤9223372036854775806
  ·exact xu u u acc (T7 _) h (by omega)
  ·have hu:u=9223372036854775807:=by omega
   subst hu
   have hs : ∀ c:UInt8,(⟨#[c]⟩:S0).size=1:=fun _=>rfl
   have e1:cg_ ((9223372036854775807:Nat):Int) 10=((7:Nat):Int):=by decide
   have e2:Int.tdiv ((9223372036854775807:Nat):Int) 10=((922337203685477580:Nat):Int):=by decide
   rw[qB,aC (by decide),e1,e2,pg (by decide),dg (by rw[hs]; omega),wr (by omega) (by omega),xu 922337203685477580 _ _ (by omega) (by omega) (by rw[size_append,hs]; omega)]
   conv=>rhs; rw[U8,dif_neg (by decide)]
   congr 3
   apply tM
   simp
 rw[h2 _ rfl]
 congr 3
 apply tM
 simp
theorem xw {n:Int} (h0 : -9223372036854775807≤n) (h1:n≤9223372036854775807):cQ n=some ((d8 n,()),()):=by
 by_cases h:n < 0
 ·have hz:=dR (n := -n) (by omega) (by omega)
  have h45:(⟨#[45]⟩:S0).size=1:=rfl
  rw[D2,aC h,wr (by omega) (by omega),show(0 - n:Int)=((-n).toNat:Int) by omega,BN (by omega),show(((-n).toNat:Nat):Int) = -n by omega]
  simp only[S1]
  rw[dg (by omega),←xv h]
 ·rw[show n=(n.toNat:Int) by omega]
  exact BN (by omega)
theorem gy {n:Int} (h0 : -9223372036854775808≤n) (h1:n≤9223372036854775807):en n=some ((d8 n,()),()):=by
 rw[Iq,va]
 show(if(10:Int)=10∧_∧_ then _ else _:Option _).bind _=_
 rw[S6 ⟨rfl,h0,h1⟩]
 rfl
def QM:List S0:=[(⟨#[]⟩:S0),(⟨#[35,68,73,86,33]⟩:S0),(⟨#[35,84,89,80,69,33]⟩:S0),(⟨#[35,82,69,70,33]⟩:S0),(⟨#[35,79,86,69,82,33]⟩:S0),(⟨#[35,67,89,67,76,69,33]⟩:S0)]
def c8 (n:Int):S0:=QM.getD n.toNat eS
theorem ve {n:Int} (h0:0≤n) (h1:n≤5):tg n=some ((c8 n,()),()):=by
 rw[KA,jz h0 (by show n < 6; omega)]
 rfl
theorem oD {n:Int} (h0:0≤n) (h1:n≤5):mc n=some ((c8 n,()),()):=by
 rw[EZ,jz h0 (by show n < 6; omega)]
 rfl
def BO (n:Int):S0:=if n=1 then⟨#[84,82,85,69]⟩ else⟨#[70,65,76,83,69]⟩
theorem KX (n:Int):Cz n=some ((BO n,()),()):=by
 rw[KE]
 unfold BO
 by_cases h:n=1 <;> simp[h]
def dy (v:aI):S0:=if v.1=1 then d8 v.2.1 else if v.1=2 then(⟨#[39]⟩:S0)++v.2.2.1 else if v.1=3 then BO v.2.1 else if v.1=4 then c8 v.2.1 else eS
theorem yl {v:aI} (h:bm v=true) (k:v.1=1) : -1000000000000000≤v.2.1∧v.2.1≤1000000000000000:=by
 unfold bm at h
 rw[S4 (by omega),S4 (by omega),S6 k] at h
 simp only[S8,T0] at h
 exact bU.1 h.2
theorem Je {v:aI} (h:bm v=true) (k:v.1=3):0≤v.2.1∧v.2.1≤1:=by
 unfold bm at h
 rw[S4 (by omega),S4 (by omega),S4 (by omega),S6 k] at h
 simp only[S8,T0] at h
 exact bU.1 h.2
theorem ym {v:aI} (h:bm v=true) (k:v.1=4):1≤v.2.1∧v.2.1≤5:=by
 unfold bm at h
 rw[S4 (by omega),S4 (by omega),S4 (by omega),S4 (by omega),S6 k] at h
 simp only[S8,T0] at h
 exact bU.1 h.2
theorem KY {v:aI} (h:bm v=true):v.1=0∨v.1=1∨v.1=2∨v.1=3∨v.1=4:=by
 unfold bm at h
 split at h
 ·omega
 ·simp only[S8] at h
  have h:=h.2
  split at h
  ·omega
  ·split at h
   ·omega
   ·split at h
    ·omega
    ·split at h
     ·omega
     ·cases h
theorem MK (n:Int):(c8 n).size≤10:=by
 have h : ∀ i:Nat,i < 6→(QM.getD i eS).size≤10:=by decide
 unfold c8
 by_cases hn:n.toNat < 6
 ·exact h _ hn
 ·rw[V9,List.getElem?_eq_none (by show 6≤n.toNat; omega)]
  decide
theorem ML {v:aI} (h:bm v=true):(dy v).size≤201:=by
 have hs:=gl h
 unfold dy
 split
 ·have:=yl h ‹_›
  exact W7 (dR (by omega) (by omega)) (by decide)
 ·split
  ·rw[size_append]
   have:(⟨#[39]⟩:S0).size=1:=rfl
   omega
  ·split
   ·unfold BO
    split <;> decide
   ·split
    ·exact W7 (MK _) (by decide)
    ·decide
theorem KZ {β:Type} {s:S0} {f:S0→Option β} (h:s.size≤9223372036854775806):cats (⟨#[39]⟩:S0) s f=f ((⟨#[39]⟩:S0)++s):=dg (by
 have:(⟨#[39]⟩:S0).size=1:=rfl
 omega)
theorem kO {v:aI} (hs:v.2.2.1.size≤9223372036854775807):gf v=some ((if bm v=true then dy v else eS,()),()):=by
 rw[EQ,kz hs,S1]
 unfold dy
 cases h:bm v
 ·rfl
 ·have hz:=gl h
  simp only[V6,S9,U6,V4,X3]
  by_cases h1:v.1=1
  ·have:=yl h h1
   simp[h1,xw (n:=v.2.1) (by omega) (by omega)]
  by_cases h2:v.1=2
  ·simp only[h2,V4,KZ (s:=v.2.2.1) (by omega)]
   rfl
  by_cases h3:v.1=3
  ·simp[h3,KX]
  by_cases h4:v.1=4
  ·have:=ym h h4
   simp[h4,ve (n:=v.2.1) (by omega) (by omega)]
  simp[h1,h2,h3,h4]
theorem v7 {v:aI} (h:bm v=true):ey v=some ((dy v,()),()):=by
 rw[E0]
 unfold dy
 have hz:=gl h
 simp only[X3]
 by_cases h1:v.1=1
 ·have:=yl h h1
  simp[h1,gy (n:=v.2.1) (by omega) (by omega)]
 by_cases h2:v.1=2
 ·simp only[h2,V4,KZ (s:=v.2.2.1) (by omega)]
  rfl
 by_cases h3:v.1=3
 ·have:=Je h h3
  simp only[h3,V4]
  rw[S4 (by decide),S4 (by decide),S4 (by decide),S4 (by decide),jz (by omega) (by show v.2.1 < 2; omega)]
  unfold BO
  by_cases h5:v.2.1=1
  ·rw[h5]
   rfl
  ·rw[show v.2.1=0 by omega]
   rfl
 by_cases h4:v.1=4
 ·have:=ym h h4
  simp[h4,oD (n:=v.2.1) (by omega) (by omega)]
 simp[h1,h2,h3,h4]
section
variable {a b:aI} (ha:a.2.2.1.size≤9223372036854775807) (hb:b.2.2.1.size≤9223372036854775807)
include ha hb
end
def zY (x y:Int):Int:=if x < y then -1 else if y < x then 1 else 0
theorem D4 (x y:Int):gD x y=some ((zY x y,()),()):=by
 rw[u2,n8,n8]
 unfold zY
 simp
 by_cases h:x < y
 ·simp[h]
 ·by_cases h2:y < x <;> simp[h,h2]
theorem Gz {l:List Int} (hl:l.length≤100) : ∀(ys pre:List Int),l=pre++ys→kL 0 l (l.length:Int) (pre.length:Int)=some (((ys.find? fun y=>decide (y≠0)).getD 0,()),())
 | [],pre,he=>by
  rw[qF,ax (bQ he)]
  rfl
 | y :: ys,pre,he=>by
  rw[qF,aC (bq he),bk he,aL he (by omega),Gz hl ys _ (aM he)]
  by_cases h:y=0
  ·simp[h]
  ·simp[h]
theorem Ow {l:List Int} (hl:l.length≤100):uQ l=some (((l.find? fun y=>decide (y≠0)).getD 0,()),()):=by
 rw[EY]
 exact Gz hl l [] rfl
section
variable {op:Int} {a b:aI} (ha:a.2.2.1.size≤9223372036854775807) (hb:b.2.2.1.size≤9223372036854775807)
include ha hb
end
abbrev p0:b9:=((0,0,()),false,false,())
abbrev ab.kids (x:ab):List Int:=x.2.2.2.2.2.1
def qM (op k:Int):Bool:=if op=5 then(decide (k=2) || decide (k=3)) else if cl op 1 7=true then cl k 1 10 else if cl op 8 10=true then decide (k=1) else false
def kl (x:ab):Int:=(T5 x.2.2.2.2.2.1:Int)
def ed (x:ab):Bool :=
 if x.1=1 then decide (x.2.1=0) && decide (x.2.2.2.1=p0) && decide (x.2.2.2.2.1=p0) && decide (kl x=0) && bm x.2.2.1 && !decide (x.2.2.1.1=0) && (!decide (x.2.2.1.1=1) || decide (0≤x.2.2.1.2.1))
 else if x.1=2 then decide (x.2.1=0) && decide (x.2.2.1=v0) && decide (x.2.2.2.2.1=p0) && decide (kl x=0) && bT x.2.2.2.1.1
 else if x.1=3 then decide (x.2.1=0) && decide (x.2.2.1=v0) && decide (kl x=0) && mo (x.2.2.2.1.1,x.2.2.2.2.1.1,())
 else if x.1=4 then decide (x.2.1=0) && decide (x.2.2.1=v0) && decide (x.2.2.2.1=p0) && decide (x.2.2.2.2.1=p0) && decide (kl x=1)
 else if x.1=5 then cl x.2.1 1 11 && decide (x.2.2.1=v0) && decide (x.2.2.2.1=p0) && decide (x.2.2.2.2.1=p0) && decide (kl x=2)
 else if x.1=6 then qM x.2.1 (kl x) && decide (x.2.2.1=v0) && decide (x.2.2.2.1=p0) && decide (x.2.2.2.2.1=p0)
 else false
theorem Ox {a b:b9}:(bV bB a b=true)=(a=b):=propext (lA rfl)
theorem Oy {a b:aI}:(bV bw a b=true)=(a=b):=propext (lA rfl)
theorem Pi (a b:b9):bV bB a b=decide (a=b):=by
 rw[Y7,T0,Ox]
theorem Pj (a b:aI):bV bw a b=decide (a=b):=by
 rw[Y7,T0,Oy]
theorem K0 (op k:Int):Cy op k=some ((qM op k,()),()):=by
 rw[Kz]
 unfold qM cl
 simp only[X3,T0,ge_iff_le,KU]
 by_cases h:op=1∨op=2∨op=3∨op=4∨op=5∨op=6∨op=7∨op=8∨op=9∨op=10
 ·by_cases hk:1≤k <;> by_cases hk2:k=2 <;> rcases h with rfl | rfl | rfl | rfl | rfl | rfl | rfl | rfl | rfl | rfl <;> simp[hk,hk2] <;> omega
 ·have h1:op≠1:=by omega
  have h2:op≠2:=by omega
  have h3:op≠3:=by omega
  have h4:op≠4:=by omega
  have h5:op≠5:=by omega
  have h6:op≠6:=by omega
  have h7:op≠7:=by omega
  have h8:op≠8:=by omega
  have h9:op≠9:=by omega
  have h10:op≠10:=by omega
  have h11 : ¬(1≤op∧op≤7):=by omega
  have h12 : ¬(8≤op∧op≤10):=by omega
  simp only[h1,h2,h3,h4,h5,h6,h7,h8,h9,h10,h11,h12,U6]
theorem xx {x:ab} (h:x.2.2.1.2.2.1.size≤9223372036854775807):rq x=some ((ed x,()),()):=by
 rw[Gh]
 unfold ed kl
 simp only[kz h,lB,KV,jA,K0,S1,X3,bne_iff_ne,ne_eq,Ox,Oy,Pi,Pj,KU,v0,ge_iff_le]
 generalize (T5 x.2.2.2.2.2.1:Int)=k
 by_cases h1:x.1=1
 ·by_cases a1:x.2.1=0 <;> by_cases a2:x.2.2.2.1=p0 <;> by_cases a3:x.2.2.2.2.1=p0 <;> by_cases a4:k=0 <;> cases ov:bm x.2.2.1 <;> by_cases a5:x.2.2.1.1=0 <;> by_cases a6:x.2.2.1.1=1 <;> simp[a1,a2,a3,a4,a5,a6,h1,ov]
 by_cases h2:x.1=2
 ·by_cases a1:x.2.1=0 <;> by_cases a2:x.2.2.1=(0,0,eS,()) <;> by_cases a3:x.2.2.2.2.1=p0 <;> by_cases a4:k=0 <;> simp[a1,a2,a3,a4,h2]
 by_cases h3:x.1=3
 ·by_cases a1:x.2.1=0 <;> by_cases a2:x.2.2.1=(0,0,eS,()) <;> by_cases a4:k=0 <;> simp[a1,a2,a4,h3]
 by_cases h4:x.1=4
 ·by_cases a1:x.2.1=0 <;> by_cases a2:x.2.2.1=(0,0,eS,()) <;> by_cases a3:x.2.2.2.1=p0 <;> by_cases a4:x.2.2.2.2.1=p0 <;> simp[a1,a2,a3,a4,h4]
 by_cases h5:x.1=5
 ·cases hi:cl x.2.1 1 11 <;> by_cases a2:x.2.2.1=(0,0,eS,()) <;> by_cases a3:x.2.2.2.1=p0 <;> by_cases a4:x.2.2.2.2.1=p0 <;> simp[a2,a3,a4,h5,hi]
 by_cases h6:x.1=6
 ·cases hi:qM x.2.1 k <;> by_cases a2:x.2.2.1=(0,0,eS,()) <;> by_cases a3:x.2.2.2.1=p0 <;> simp[a2,a3,h6,hi]
 simp[h1,h2,h3,h4,h5,h6]
theorem BP {x:ab} (h:x.2.2.1.2.2.1.size≤9223372036854775807):ql x=some ((ed x,()),()):=by
 have c1 : ∀ a:b9,(p0=a)=(a=p0):=fun a=>propext eq_comm
 have c2 : ∀ a:aI,((0,0,eS,())=a)=(a=(0,0,eS,())):=fun a=>propext eq_comm
 rw[BE,xp,zT]
 unfold ed kl qM
 simp only[sn h,CO,KW,eC,S1,X3,bne_iff_ne,ne_eq,Ox,Oy,Pi,Pj,KU,v0,ge_iff_le,c1,c2]
 generalize (T5 x.2.2.2.2.2.1:Int)=k
 by_cases h1:x.1=1
 ·simp only[h1,V4]
  by_cases a1:x.2.1=0 <;> by_cases a2:x.2.2.2.1=p0 <;> by_cases a3:x.2.2.2.2.1=p0 <;> by_cases a4:k=0 <;> cases bm x.2.2.1 <;> by_cases a5:x.2.2.1.1=0 <;> by_cases a6:x.2.2.1.1=1 <;> by_cases a7:x.2.2.1.2.1 < 0 <;> have a8:(0≤x.2.2.1.2.1) = ¬x.2.2.1.2.1 < 0:=propext (by omega) <;> simp[a1,a2,a3,a4,a5,a6,a7,a8]
 by_cases h2:x.1=2
 ·have e:mo (x.2.2.2.1.1,x.2.2.2.1.1,())=bT x.2.2.2.1.1:=by
   unfold mo
   simp
  by_cases a1:x.2.1=0 <;> by_cases a2:x.2.2.1=(0,0,eS,()) <;> by_cases a3:x.2.2.2.2.1=p0 <;> by_cases a4:k=0 <;> cases hr:bT x.2.2.2.1.1 <;> simp[a1,a2,a3,a4,h2,e,hr]
 by_cases h3:x.1=3
 ·by_cases a1:x.2.1=0 <;> by_cases a2:x.2.2.1=(0,0,eS,()) <;> by_cases a4:k=0 <;> cases hr:mo (x.2.2.2.1.1,x.2.2.2.2.1.1,()) <;> simp[a1,a2,a4,h3,hr]
 by_cases h4:x.1=4
 ·by_cases a1:x.2.1=0 <;> by_cases a2:x.2.2.1=(0,0,eS,()) <;> by_cases a3:x.2.2.2.1=p0 <;> by_cases a4:x.2.2.2.2.1=p0 <;> by_cases a5:k=1 <;> simp[a1,a2,a3,a4,a5,h4]
 by_cases h5:x.1=5
 ·cases hi:cl x.2.1 1 11 <;> by_cases a2:x.2.2.1=(0,0,eS,()) <;> by_cases a3:x.2.2.2.1=p0 <;> by_cases a4:x.2.2.2.2.1=p0 <;> by_cases a5:k=2 <;> simp[a2,a3,a4,a5,h5,hi]
 by_cases h6:x.1=6
 ·by_cases a2:x.2.2.1=(0,0,eS,()) <;> by_cases a3:x.2.2.2.1=p0 <;> by_cases a4:x.2.2.2.2.1=p0 <;> simp only[a2,a3,a4,h6,V4,U6,decide_true,Z0,Bool.and_false,cy_]
  all_goals
   generalize x.2.1=op
   unfold cl
   by_cases b1:1≤op∧op≤10
   ·by_cases b2:op=5
    ·subst b2
     by_cases b3:2≤k∧k≤3
     ·have:k=2∨k=3:=by omega
      rcases this with rfl | rfl <;> simp
     ·have : ¬k=2:=by omega
      have : ¬k=3:=by omega
      simp[b3, *]
    ·by_cases b3:8≤op
     ·have b4 : ¬(op≤7):=by omega
      have b5:op≤10:=by omega
      by_cases b6:k=1 <;> simp[b1,b2,b3,b4,b5,b6]
     ·have b4:op≤7:=by omega
      by_cases b6:1≤k∧k≤10 <;> simp[b1,b2,b3,b4,b6]
   ·have b2 : ¬op=5:=by omega
    have b3 : ¬(1≤op∧op≤7):=by omega
    have b4 : ¬(8≤op∧op≤10):=by omega
    simp[b1,b2,b3,b4]
 simp[h1,h2,h3,h4,h5,h6]
def kf (f:List ab) (i:Int):Bool:=decide ((f.getD i.toNat al.dflt).1=3)
def GA (f:List ab) (k:Int):ab:=f.getD k.toNat al.dflt
def eD (c:Int→Option (Int×Nat)) (f:List ab) (call:Bool):List Int→Int→Nat→Option (Int×Nat)
 | [],cur,h=>some (cur,h+1)
 | kid :: l,cur,h=>if kid=cur - 1∧0≤kid∧(kf f kid=true→call=true) then(c kid).bind fun p=>eD c f call l p.1 (max h p.2) else none
def ee (f:List ab):Nat→Int→Option (Int×Nat)
 | 0,_=>none
 | n+1,k=>if 0≤k then match f[k.toNat]? with
  | none=>none
  | some x=>if ed x=true then eD (ee f n) f (decide (x.1=6)) x.2.2.2.2.2.1.reverse k 0 else none
  else none
def mp (f:List ab) (i:Nat) (x:ab):Prop:=ed x=true ∧ ∀ k∈x.2.2.2.2.2.1,0≤k∧k < i∧(kf f k=true→x.1=6)
theorem oe {c:Int→Option (Int×Nat)} {f:List ab} {call:Bool} (hc : ∀ k s h,c k=some (s,h)→0≤s∧s≤k ∧ ∀ i:Nat,s≤i→(i:Int)≤k → ∃ x,f[i]? = some x∧mp f i x) :
  ∀(l:List Int) (cur:Int) (h:Nat) (s:Int) (h':Nat),0≤cur→eD c f call l cur h=some (s,h')→0≤s∧s≤cur∧h+1≤h'∧(∀ i:Nat,s≤i→(i:Int) < cur → ∃ x,f[i]? = some x∧mp f i x) ∧ ∀ k∈l,0≤k∧k < cur∧(kf f k=true→call=true)
 | [],cur,h,s,h',h0,e=>by
  simp only[eD,U3,cx_] at e
  obtain⟨rfl,rfl⟩:=e
  exact⟨h0,af_ _,T7 _,fun i h1 h2=>by omega,fun k hk=>by cases hk⟩
 | kid :: l,cur,h,s,h',h0,e=>by
  simp only[eD] at e
  split at e
  ·rename_i hk
   rw[S7] at e
   obtain⟨⟨t,ht⟩,e1,e2⟩:=e
   obtain⟨a1,a2,a3⟩:=hc _ _ _ e1
   obtain⟨b1,b2,b3,b4,b5⟩:=oe hc l t (max h ht) s h' a1 e2
   refine⟨b1,by omega,by omega,fun i h1 h2 => ?_,fun k hm => ?_⟩
   ·by_cases hi:(i:Int) < t
    ·exact b4 i h1 hi
    ·exact a3 i (by omega) (by omega)
   ·rcases U7.1 hm with rfl | hm
    ·exact⟨hk.2.1,by omega,hk.2.2⟩
    ·have:=b5 k hm
     exact⟨this.1,by omega,this.2.2⟩
  ·cases e
theorem f3 (f:List ab) : ∀(n:Nat) (k s:Int) (h:Nat),ee f n k=some (s,h)→0≤s∧s≤k ∧ ∀ i:Nat,s≤i→(i:Int)≤k → ∃ x,f[i]? = some x∧mp f i x
 | 0,_,_,_,e=>by cases e
 | n+1,k,s,h,e=>by
  simp only[ee] at e
  split at e
  ·rename_i h0
   split at e
   ·cases e
   ·rename_i x hx
    split at e
    ·rename_i ho
     obtain⟨b1,b2,b3,b4,b5⟩:=oe (f3 f n) _ _ _ _ _ h0 e
     refine⟨b1,b2,fun i h1 h2 => ?_⟩
     by_cases hi:(i:Int) < k
     ·exact b4 i h1 hi
     ·have hik:i=k.toNat:=by omega
      refine⟨x,by rw[hik,hx],ho,fun k' hk' => ?_⟩
      have:=b5 k' (by simpa using hk')
      exact⟨this.1,by omega,fun ha=>by simpa using this.2.2 ha⟩
    ·cases e
  ·cases e
theorem PH {f:List ab} {n:Nat} {k s:Int} {h:Nat} (e:ee f n k=some (s,h)):1≤h:=by
 cases n with
 | zero=>cases e
 | succ n =>
  simp only[ee] at e
  split at e
  ·rename_i h0
   split at e
   ·cases e
   ·split at e
    ·exact W7 (by omega) (oe (f3 f n) _ _ _ _ _ h0 e).2.2.1
    ·cases e
  ·cases e
def kP (deep:Int):Option (Int×Nat)→Int
 | some (s,h)=>if deep+h≤12 then s else -1
 | none => -1
theorem oQ {n:Int} (h0 : -1000000000≤n) (h1:n≤1000000000):IntKind.i64.wrap n=n:=wr (by omega) (by omega)
section
variable {f:List ab} (hl:f.length≤10000000) (hs : ∀ x∈f,x.2.2.1.2.2.1.size≤9223372036854775807)
include hl hs
theorem BQ {n:Nat} (ih : ∀(k deep:Int),0≤k→k < n→k < f.length→0≤deep→deep≤12→uR f k deep=some ((kP deep (ee f n k),()),())) {x:ab} {k:Int} (h0:0≤k) (hk:f[k.toNat]? = some x) (hkn:k≤n) (hkl:x.2.2.2.2.2.1.length≤10000000) :
  ∀(r suf:List Int) (cur:Int) (h:Nat) (deep:Int),x.2.2.2.2.2.1=r.reverse++suf→0≤cur→cur≤k→0≤deep→deep+h+1≤12→mZ f k deep cur ((r.length:Int) - 1)=some ((kP deep (eD (ee f n) f (decide (x.1=6)) r cur h),()),())
 | [],suf,cur,h,deep,he,c0,c1,d0,d1=>by
  rw[zh,ax (by simp)]
  simp only[eD,kP]
  rw[S6 (by omega)]
 | kid :: r,suf,cur,h,deep,he,c0,c1,d0,d1=>by
  have hkl2:k < (f.length:Int):=by
   have:=(U0.1 hk).1
   omega
  have he':x.2.2.2.2.2.1=r.reverse++kid :: suf:=by rw[he]; simp
  have hlen:(((kid :: r).length:Int) - 1)=((r.reverse).length:Int):=by simp
  rw[zh,aC (by rw[hlen]; exact nn _),df h0 hk,hlen,bk he',oQ (n:=cur - 1) (by omega) (by omega)]
  simp only[eD]
  by_cases e1:kid=cur - 1
  ·rw[S4 (by simp[e1])]
   by_cases e2:kid < 0
   ·rw[aC e2,S4 (by omega)]
    rfl
   ·rw[ax e2]
    have hkd:kid < (f.length:Int):=by omega
    obtain⟨y,hy⟩ : ∃ y,f[kid.toNat]? = some y:=⟨f[kid.toNat]'(by omega),T9 _⟩
    rw[df (by omega) hy]
    have har:kf f kid=decide (y.1=3):=by
     unfold kf
     rw[V9,hy]
     rfl
    have go:((uR f kid (dz_ ea_ (deep+1))).bind fun z1=>if decide (z1.1.1 < 0)=true then some ((-1,()),()) else mZ f k deep z1.1.1 (dz_ ea_ (((r.reverse).length:Int) - 1)))=some ((kP deep ((ee f n kid).bind fun p=>eD (ee f n) f (decide (x.1=6)) r p.1 (max h p.2)),()),()):=by
     have hlr:(r.reverse).length≤10000000:=by
      rw[he',S5] at hkl
      omega
     rw[oQ (by omega) (by omega),oQ (by omega) (by omega),ih kid (deep+1) (by omega) (by omega) hkd (by omega) (by omega),S1]
     cases hc:ee f n kid with
     | none=>rfl
     | some p =>
      obtain⟨t,ht⟩:=p
      have ha:=f3 f n _ _ _ hc
      by_cases hd:deep+1+ht≤12
      ·have er:kP (deep+1) (some (t,ht))=t:=S6 hd
       simp only[er,S1]
       rw[ax (by omega),ds_,BQ ih h0 hk hkn hkl r (kid :: suf) t (max h ht) deep he' (by omega) (by omega) d0 (by omega)]
      ·have er:kP (deep+1) (some (t,ht)) = -1:=S4 hd
       simp only[er,S1]
       rw[aC (by decide)]
       cases hq:eD (ee f n) f (decide (x.1=6)) r t (max h ht) with
       | none=>rfl
       | some q =>
        obtain⟨s',h'⟩:=q
        have:=(oe (f3 f n) _ _ _ _ _ (by omega) hq).2.2.1
        simp only[kP]
        rw[S4 (by omega)]
    by_cases e3:y.1=3
    ·rw[S6 (by simp[e3]),df h0 hk]
     by_cases e4:x.1=6
     ·rw[S4 (by simp[e4]),S6 ⟨e1,by omega,fun _=>by simp[e4]⟩]
      exact go
     ·rw[S6 (by simp[e4]),S4 (by rw[har]; simp[e3,e4])]
      rfl
    ·rw[S4 (by simp[e3]),S6 ⟨e1,by omega,fun h=>by rw[har] at h; simp[e3] at h⟩]
     exact go
  ·rw[S6 (by simpa using e1),S4 (fun h=>e1 h.1)]
   rfl
theorem GB : ∀(n:Nat) (k deep:Int),0≤k→k < n→k < f.length→0≤deep→deep≤12→(∀ x∈f,x.2.2.2.2.2.1.length≤10000000)→uR f k deep=some ((kP deep (ee f n k),()),())
 | 0,k,deep,h0,h1,_,_,_,_=>by omega
 | n+1,k,deep,h0,h1,h2,d0,d1,hkl=>by
  obtain⟨x,hx⟩ : ∃ y,f[k.toNat]? = some y:=⟨f[k.toNat]'(by omega),T9 _⟩
  have hm:x∈f:=W4 hx
  rw[Ov,ax (by omega)]
  by_cases hd:deep≥12
  ·rw[aC hd]
   cases hc:ee f (n+1) k with
   | none=>rfl
   | some p =>
    obtain⟨s,h⟩:=p
    have:=PH hc
    simp only[kP]
    rw[S4 (by omega)]
  ·have:=hkl x hm
   rw[ax hd,df h0 hx,BP (hs x hm),S1,df h0 hx,oQ (by omega) (by omega)]
   simp only[ee,S6 h0,hx]
   cases ho:ed x with
   | false=>rfl
   | true =>
    simp only[V6,S9,U6,V4]
    have:=BQ hl hs (n:=n) (fun k deep a b c d e=>GB n k deep a b c d e hkl) h0 hx (by omega) this x.2.2.2.2.2.1.reverse [] k 0 deep (by simp) h0 (af_ _) d0 (by omega)
    rw[ds_] at this
    exact this
def CW:Option (Int×Nat)→Int
 | some (s,_)=>s
 | none => -1
theorem xy {n:Nat} (A : ∀(i:Nat) (x:ab),f[i]? = some x→mp f i x) (ih : ∀(k:Int),0≤k→k < n→k < f.length→th f k=some ((CW (ee f n k),()),())) {x:ab} {k:Int} (h0:0≤k) (hk:f[k.toNat]? = some x) (hkn:k≤n) (hkl:x.2.2.2.2.2.1.length≤10000000) :
  ∀(r suf:List Int) (cur:Int) (h:Nat),x.2.2.2.2.2.1=r.reverse++suf→0≤cur→cur≤k→o5 f k (cur - 1) ((r.length:Int) - 1)=some ((CW (eD (ee f n) f (decide (x.1=6)) r cur h),()),())
 | [],suf,cur,h,he,c0,c1=>by
  have hkl2:k < (f.length:Int):=by
   have:=(U0.1 hk).1
   omega
  rw[vS,ax (by simp),oQ (by omega) (by omega)]
  simp only[eD,CW]
  congr 3
  omega
 | kid :: r,suf,cur,h,he,c0,c1=>by
  have hkl2:k < (f.length:Int):=by
   have:=(U0.1 hk).1
   omega
  have he':x.2.2.2.2.2.1=r.reverse++kid :: suf:=by rw[he]; simp
  have hlen:(((kid :: r).length:Int) - 1)=((r.reverse).length:Int):=by simp
  have hmem:kid∈x.2.2.2.2.2.1:=by rw[he']; simp
  have hst:=(A _ _ hk).2 kid hmem
  rw[vS,aC (by rw[hlen]; exact nn _)]
  simp only[eD]
  by_cases e0:cur - 1 < 0
  ·rw[aC e0,S4 (by omega)]
   rfl
  ·rw[ax e0,df h0 hk,hlen,bk he']
   by_cases e1:kid=cur - 1
   ·have hkd:kid < (f.length:Int):=by omega
    have hlr:(r.reverse).length≤10000000:=by
     rw[he',S5] at hkl
     omega
    rw[S4 (by simp[e1]),S6 ⟨e1,hst.1,fun ha=>by simpa using hst.2.2 ha⟩,←e1,ih kid hst.1 (by omega) hkd,S1,oQ (n:=(r.reverse.length:Int) - 1) (by omega) (by omega)]
    cases hc:ee f n kid with
    | none=>rfl
    | some p =>
     obtain⟨t,ht⟩:=p
     have ha:=f3 f n _ _ _ hc
     have er:CW (some (t,ht))=t:=rfl
     simp only[er,S1]
     rw[ax (by omega),oQ (n:=t - 1) (by omega) (by omega),ds_,xy A ih h0 hk hkn hkl r (kid :: suf) t (max h ht) he' (by omega) (by omega)]
   ·rw[S6 (by simpa using e1),S4 (fun h=>e1 h.1)]
    rfl
theorem BR (A : ∀(i:Nat) (x:ab),f[i]? = some x→mp f i x) (hkl : ∀ x∈f,x.2.2.2.2.2.1.length≤10000000) : ∀(n:Nat) (k:Int),0≤k→k < n→k < f.length→th f k=some ((CW (ee f n k),()),())
 | 0,k,h0,h1,_=>by omega
 | n+1,k,h0,h1,h2=>by
  obtain⟨x,hx⟩ : ∃ y,f[k.toNat]? = some y:=⟨f[k.toNat]'(by omega),T9 _⟩
  have hm:x∈f:=W4 hx
  have hk:=hkl x hm
  rw[KC,df h0 hx,oQ (n:=k - 1) (by omega) (by omega),oQ (by omega) (by omega)]
  simp only[ee,S6 h0,hx,(A _ _ hx).1,V4]
  have:=xy hl hs (n:=n) A (BR A hkl n) h0 hx (by omega) hk x.2.2.2.2.2.1.reverse [] k 0 (by simp) h0 (af_ _)
  rw[ds_] at this
  exact this
def j8 (c:Int→Option (Int×Nat)):List Int→Nat
 | []=>0
 | k :: l=>max (((c k).map (·.2)).getD 0) (j8 c l)
omit hl hs in
theorem zZ (c:Int→Option (Int×Nat)) (k:Int) : ∀ l,j8 c (l++[k])=max (j8 c l) (((c k).map (·.2)).getD 0)
 | []=>by simp[j8]
 | y :: l=>by
  simp only[be_,j8,zZ c k l]
  omega
omit hl hs in
theorem Jf (c:Int→Option (Int×Nat)) : ∀ l,j8 c l.reverse=j8 c l
 | []=>rfl
 | y :: l=>by
  rw[List.reverse_cons,zZ,Jf c l]
  simp only[j8]
  omega
omit hl hs in
theorem D5 {c:Int→Option (Int×Nat)} {call:Bool} : ∀(l:List Int) (cur:Int) (h:Nat) (s:Int) (h':Nat),eD c f call l cur h=some (s,h')→h'=max h (j8 c l)+1 ∧ ∀ k∈l,∃ p,c k=some p
 | [],cur,h,s,h',e=>by
  simp only[eD,U3,cx_] at e
  exact⟨by simp only[j8]; omega,fun k hk=>by cases hk⟩
 | kid :: l,cur,h,s,h',e=>by
  simp only[eD] at e
  split at e
  ·rw[S7] at e
   obtain⟨⟨t,ht⟩,e1,e2⟩:=e
   obtain⟨b1,b2⟩:=D5 l t (max h ht) s h' e2
   refine⟨?_,fun k hk => ?_⟩
   ·simp only[j8,e1,bc_,Z6]
    omega
   ·rcases U7.1 hk with rfl | hk
    ·exact⟨_,e1⟩
    ·exact b2 k hk
  ·cases e
theorem xz {n:Nat} {c:Int→Option (Int×Nat)} (ih : ∀(k:Int) (s:Int) (h:Nat),k < n→c k=some (s,h)→tj f k=some (((h:Int),()),())) {x:ab} {k:Int} (h0:0≤k) (hk:f[k.toNat]? = some x) (hkn:k≤n) (hkl:x.2.2.2.2.2.1.length≤10000000) (hall : ∀ k'∈x.2.2.2.2.2.1,(∃ p,c k'=some p)∧k' < k) (hb:j8 c x.2.2.2.2.2.1≤10000000) :
  ∀(ys pre:List Int),x.2.2.2.2.2.1=pre++ys→o6 f k (j8 c pre:Int) (pre.length:Int)=some ((((j8 c x.2.2.2.2.2.1+1:Nat):Int),()),())
 | [],pre,he=>by
  have:pre=x.2.2.2.2.2.1:=by rw[he]; simp
  rw[vU,df h0 hk,ax (bQ he),this,oQ (by omega) (by omega)]
  rfl
 | y :: ys,pre,he=>by
  obtain⟨⟨⟨s,h⟩,hc⟩,hlt⟩:=hall y (by rw[he]; simp)
  rw[vU,df h0 hk,aC (bq he),df h0 hk,bk he,ih y s h (by omega) hc,S1,aL he (by omega)]
  have:(if((j8 c pre:Nat):Int) < (h:Int) then(h:Int) else((j8 c pre:Nat):Int))=(j8 c (pre++[y]):Int):=by
   rw[zZ,hc]
   simp only[bc_,Z6]
   split <;> omega
  rw[this]
  exact xz ih h0 hk hkn hkl hall hb ys _ (aM he)
theorem vf (hkl : ∀ x∈f,x.2.2.2.2.2.1.length≤10000000) : ∀(n:Nat) (k s:Int) (h:Nat),ee f n k=some (s,h)→n≤10000000→h≤n∧tj f k=some (((h:Int),()),())
 | 0,_,_,_,e,_=>by cases e
 | n+1,k,s,h,e,hn=>by
  have hall:=f3 f _ _ _ _ e
  simp only[ee] at e
  split at e
  ·rename_i h0
   split at e
   ·cases e
   ·rename_i x hx
    split at e
    ·have hm:x∈f:=W4 hx
     obtain⟨b1,b2⟩:=D5 _ _ _ _ _ e
     have hst:=oe (f3 f n) _ _ _ _ _ h0 e
     have hhm:j8 (ee f n) x.2.2.2.2.2.1≤n:=by
      have : ∀ l:List Int,j8 (ee f n) l≤n:=by
       intro l
       induction l with
       | nil=>exact aa_ _
       | cons y l ih =>
        simp only[j8]
        cases hc:ee f n y with
        | none=>simpa using ih
        | some p =>
         have:=(vf hkl n y p.1 p.2 hc (by omega)).1
         simp only[bc_,Z6]
         omega
      exact this _
     rw[Jf] at b1
     refine⟨by omega,?_⟩
     rw[KD]
     have hk2 : ∀ k'∈x.2.2.2.2.2.1,(∃ p,ee f n k'=some p)∧k' < k:=fun k' hk'=>⟨b2 k' (by simpa using hk'),(hst.2.2.2.2 k' (by simpa using hk')).2.1⟩
     have:=xz hl hs (n:=k.toNat) (c:=ee f n) (fun k' s' h' _ hc=>(vf hkl n k' s' h' hc (by omega)).2) h0 hx (by omega) (hkl x hm) hk2 (by omega) x.2.2.2.2.2.1 [] rfl
     rw[b1]
     have hz:max 0 (j8 (ee f n) x.2.2.2.2.2.1)=j8 (ee f n) x.2.2.2.2.2.1:=by omega
     rw[hz]
     exact this
    ·cases e
  ·cases e
end
def tN (f:List ab):Bool:=match ee f f.length ((f.length:Int) - 1) with
 | some (s,h)=>decide (s=0) && (!kf f ((f.length:Int) - 1) && decide ((h:Int)≤12))
 | none=>false
def oS (f:List ab):Bool:=cl (f.length:Int) 1 60 && tN f
theorem vg {f:List ab} (h:oS f=true) (i:Nat) (x:ab) (hx:f[i]? = some x):mp f i x:=by
 unfold oS tN at h
 simp only[S8] at h
 obtain⟨h1,h2⟩:=h
 have h1:=bU.1 h1
 cases hc:ee f f.length ((f.length:Int) - 1) with
 | none=>rw[hc] at h2; cases h2
 | some p =>
  obtain⟨s,d⟩:=p
  rw[hc] at h2
  simp only[S8,T0] at h2
  have hl:=(U0.1 hx).1
  obtain⟨y,hy,hs⟩:=(f3 f _ _ _ _ hc).2.2 i (by omega) (by omega)
  rw[hx] at hy
  rw[X0 hy]
  exact hs
section
variable {f:List ab} (hl:f.length≤10000000) (hs : ∀ x∈f,x.2.2.1.2.2.1.size≤9223372036854775807) (hkl : ∀ x∈f,x.2.2.2.2.2.1.length≤10000000)
include hl hs hkl
theorem oE:o0 f=some ((oS f,()),()):=by
 rw[E4]
 unfold oS
 simp only[eC,S1]
 cases hb:cl (f.length:Int) 1 60 with
 | false=>rfl
 | true =>
  have hb:=bU.1 hb
  obtain⟨x,hx⟩ : ∃ y,f[((f.length:Int) - 1).toNat]? = some y:=⟨f[((f.length:Int) - 1).toNat]'(by omega),T9 _⟩
  have har:kf f ((f.length:Int) - 1)=decide (x.1=3):=by
   unfold kf
   rw[V9,hx]
   rfl
  have hfr:=GB hl hs f.length ((f.length:Int) - 1) 0 (by omega) (by omega) (by omega) (by decide) (by decide) hkl
  simp only[V4]
  rw[oQ (by omega) (by omega),df (by omega) hx,hfr]
  unfold tN
  rw[har]
  cases hc:ee f f.length ((f.length:Int) - 1) with
  | none=>by_cases h3:x.1=3 <;> simp[h3,kP]
  | some p =>
   obtain⟨s,h⟩:=p
   have hp:=(f3 f _ _ _ _ hc).1
   by_cases h3:x.1=3
   ·simp[h3]
   ·by_cases h4:(h:Int)≤12
    ·simp[h3,kP,h4,KU]
    ·simp[h3,kP,h4]
theorem rI {x:ab} {i:Nat} (hi:f[i]? = some x) (hil:i≤10000000) : ∀(ys pre:List Int),x.2.2.2.2.2.1=pre++ys →
  iJ f (i:Int) (pre.length:Int)=if(ys.all fun k=>cl k 0 ((i:Int) - 1) && (!kf f k || decide (x.1=6)))=true then dD f ((i+1:Nat):Int) else some ((false,()),())
 | [],pre,he=>by
  rw[qI,df (nn _) (by simpa using hi),ax (bQ he),oQ (by omega) (by omega)]
  simp
 | y :: ys,pre,he=>by
  have hm:x∈f:=W4 hi
  have:=hkl x hm
  rw[qI,df (nn _) (by simpa using hi),aC (bq he),df (nn _) (by simpa using hi),bk he,jA,S1,oQ (n:=(i:Int) - 1) (by omega) (by omega),aL he (by omega)]
  have ih:=rI hi hil ys _ (aM he)
  have hlt:=(U0.1 hi).1
  cases hy:cl y 0 ((i:Int) - 1) with
  | false=>simp[hy]
  | true =>
   have hy2:=bU.1 hy
   obtain⟨z,hz⟩ : ∃ z,f[y.toNat]? = some z:=⟨f[y.toNat]'(by omega),T9 _⟩
   have har:kf f y=decide (z.1=3):=by
    unfold kf
    rw[V9,hz]
    rfl
   simp only[V6,S9,U6]
   rw[df (by omega) hz]
   by_cases h3:z.1=3
   ·rw[S6 (by simp[h3]),df (nn _) (by simpa using hi)]
    by_cases h6:x.1=6
    ·rw[S4 (by simp[h6]),ih]
     simp[hy,har,h6]
    ·rw[S6 (by simp[h6])]
     simp[hy,har,h3,h6]
   ·rw[S4 (by simp[h3]),ih]
    simp[hy,har,h3]
def jZ (f:List ab) (i:Nat):Bool:=match f[i]? with
 | some x=>ed x && x.2.2.2.2.2.1.all fun k=>cl k 0 ((i:Int) - 1) && (!kf f k || decide (x.1=6))
 | none=>true
omit hl hs hkl in
theorem zi {i:Nat} {x:ab} (hx:f[i]? = some x):jZ f i=true↔mp f i x:=by
 unfold jZ mp
 rw[hx]
 simp only[S8,Z2,bU,bd_,Bool.not_eq_true',T0]
 constructor
 ·rintro⟨h1,h2⟩
  refine⟨h1,fun k hk => ?_⟩
  obtain⟨⟨a,b⟩,c⟩:=h2 k hk
  refine⟨a,by omega,fun ha => ?_⟩
  rcases c with c | c
  ·rw[c] at ha
   cases ha
  ·exact c
 ·rintro⟨h1,h2⟩
  refine⟨h1,fun k hk => ?_⟩
  obtain⟨a,b,c⟩:=h2 k hk
  refine⟨⟨a,by omega⟩,?_⟩
  cases ha:kf f k with
  | true=>exact .inr (c ha)
  | false=>exact .inl rfl
theorem BS (hne:1≤f.length) (A : ∀(i:Nat) (x:ab),f[i]? = some x→mp f i x):dD f (f.length:Int)=some ((tN f,()),()):=by
 obtain⟨x,hx⟩ : ∃ y,f[((f.length:Int) - 1).toNat]? = some y:=⟨f[((f.length:Int) - 1).toNat]'(by omega),T9 _⟩
 have har:kf f ((f.length:Int) - 1)=decide (x.1=3):=by
  unfold kf
  rw[V9,hx]
  rfl
 rw[qA,ax (Int.lt_irrefl _),oQ (by omega) (by omega),BR hl hs A hkl f.length _ (by omega) (by omega) (by omega),S1,df (by omega) hx]
 unfold tN
 rw[har]
 cases hc:ee f f.length ((f.length:Int) - 1) with
 | none=>rfl
 | some p =>
  obtain⟨s,h⟩:=p
  have er:CW (some (s,h))=s:=rfl
  simp only[er]
  by_cases h0:s=0
  ·by_cases h3:x.1=3
   ·simp[h0,h3]
   ·rw[S6 (by simp[h0]),S6 (by simp[h3]),(vf hl hs hkl _ _ _ _ hc hl).2]
    simp[h0,h3]
  ·rw[S4 (by simp[h0])]
   simp[h0]
theorem BT {i:Nat} (hi:i < f.length):dD f (i:Int)=if jZ f i=true then dD f ((i+1:Nat):Int) else some ((false,()),()):=by
 obtain⟨x,hx⟩ : ∃ y,f[i]? = some y:=⟨f[i],T9 _⟩
 have hm:x∈f:=W4 hx
 rw[qA,aC (by omega),df (nn _) (by simpa using hx),xx (hs x hm),S1]
 have es:jZ f i=(ed x && x.2.2.2.2.2.1.all fun k=>cl k 0 ((i:Int) - 1) && (!kf f k || decide (x.1=6))):=by
  unfold jZ
  rw[hx]
 rw[es]
 cases ho:ed x with
 | false=>simp
 | true =>
  have:=rI hl hs hkl hx (by omega) x.2.2.2.2.2.1 [] rfl
  simp only[V6,S9,U6,Bool.true_and]
  exact this
open Classical in
theorem qN : ∀(n i:Nat),i+n=f.length→dD f (i:Int)=if(∀ j,i≤j→j < f.length→jZ f j=true) then dD f (f.length:Int) else some ((false,()),())
 | 0,i,h=>by
  have:i=f.length:=by omega
  rw[this,S6 (fun j h1 h2=>by omega)]
 | n+1,i,h=>by
  rw[BT hl hs hkl (by omega),qN n (i+1) (by omega)]
  by_cases h1:jZ f i=true
  ·rw[S6 h1]
   by_cases h2 : ∀ j,i+1≤j→j < f.length→jZ f j=true
   ·rw[S6 h2,S6 (fun j a b=>by
     by_cases hj:j=i
     ·rw[hj]; exact h1
     ·exact h2 j (by omega) b)]
   ·rw[S4 h2,S4 (fun h3=>h2 fun j a b=>h3 j (by omega) b)]
  ·rw[S4 h1,S4 (fun h3=>h1 (h3 i (T7 _) (by omega)))]
theorem v8:oX f=some ((oS f,()),()):=by
 rw[EP]
 by_cases h1:(f.length:Int) < 1
 ·rw[aC h1]
  have:cl (f.length:Int) 1 60=false:=by simp[cl]; omega
  simp[oS,this]
 ·rw[ax h1]
  by_cases h2:(f.length:Int) > 60
  ·rw[aC h2]
   have:cl (f.length:Int) 1 60=false:=by simp[cl]; omega
   simp[oS,this]
  ·have hb:cl (f.length:Int) 1 60=true:=bU.2 (by omega)
   rw[ax h2,show(0:Int)=((0:Nat):Int) from rfl,qN hl hs hkl f.length 0 (by omega)]
   by_cases A : ∀ j,0≤j→j < f.length→jZ f j=true
   ·rw[S6 A,BS hl hs hkl (by omega) fun i x hx=>(zi hx).1 (A i (aa_ _) (U0.1 hx).1)]
    simp[oS,hb]
   ·rw[S4 A]
    have:oS f=false:=by
     cases ho:oS f with
     | false=>rfl
     | true =>
      refine V2 (fun j _ hj => ?_) A
      have hx:f[j]? = some f[j]:=T9 _
      exact(zi hx).2 (vg ho j _ hx)
    rw[this]
end
abbrev af:=List UInt8
abbrev lb (s:S0):af:=s.data.toList
abbrev ba (l:af):S0:=⟨l.toArray⟩
theorem dq (l:af):lb (ba l)=l:=by simp
theorem jc (s:S0):ba (lb s)=s:=by cases s; simp
theorem aN (l:af):(ba l).size=l.length:=by
 show(ba l).data.size=_
 simp
theorem yn (s:S0):(lb s).length=s.size:=by
 rw[Array.length_toList]
 rfl
theorem BU {a b:af} (h:ba a=ba b):a=b:=by
 rw[←dq a,h,dq]
theorem RL {a b:af}:(ba a=ba b)=(a=b):=propext ⟨BU,fun h=>by rw[h]⟩
theorem K1 (l:af) (i j:Nat):(ba l).extract i j=ba ((l.take j).drop i):=by
 apply tM
 simp[ByteArray.data_extract,List.extract_eq_take_drop,List.drop_take]
theorem og (a b:af):ba a++ba b=ba (a++b):=by
 apply tM
 simp
theorem di {a b:af}:(S2 (ba a) == S2 (ba b))=decide (a=b):=by
 rw[j0,Y7,T0,T0,RL]
theorem QN (l:af):lz (ba l)=l.map fun b=>(b.toNat:Int):=by simp[lz]
theorem gm {β:Type} {l pre ys:af} {y:UInt8} {f:Int→Option β} (h:l=pre++y :: ys):dn (ba l) (pre.length:Int) f=f (y.toNat:Int):=by
 have:=xn (β:=β) (s:=ba l) (pre:=pre.map fun b=>(b.toNat:Int)) (ys:=ys.map fun b=>(b.toNat:Int)) (y:=(y.toNat:Int)) (f:=f) (by rw[QN,h]; simp)
 rw[List.length_map] at this
 exact this
theorem qO {β:Type} {y:UInt8} {ys:af} {f:Int→Option β}:dn (ba (y :: ys)) 0 f=f (y.toNat:Int):=gm (pre:=[]) rfl
theorem BV {β:Type} {l:af} {n:Nat} {f:S0→Option β} (h:n≤l.length):yQ (ba l) (n:Int) f=f (ba (l.take n)):=by
 rw[QI (nn _) (by rw[aN]; omega),K1]
 simp
theorem fj {β:Type} {l:af} {n:Nat} {f:S0→Option β} (h:n≤l.length):gJ (ba l) (n:Int) f=f (ba (l.drop n)):=by
 rw[QJ (nn _) (by rw[aN]; omega),K1,aN]
 simp
theorem tO {β:Type} {l:af} {i j:Nat} {f:S0→Option β} (h:i≤j) (hj:j≤l.length):rk (ba l) (i:Int) (j:Int) f=f (ba ((l.take j).drop i)):=by
 rw[QK (nn _) (by omega) (by rw[aN]; omega),K1]
 simp
theorem bz {β:Type} {a b:af} {f:S0→Option β} (h:a.length+b.length≤9223372036854775807):cats (ba a) (ba b) f=f (ba (a++b)):=by
 rw[dg (by rw[aN,aN]; exact h),og]
theorem so (s p:af) (hs:s.length≤9223372036854775807):dK (ba s) (ba p)=some ((p.isPrefixOf s,()),()):=by
 rw[qr,aN,aN]
 by_cases h:p.length≤s.length
 ·rw[aC (by omega),BV h,di]
  congr 3
  rw[Y7,T0,ay_,List.prefix_iff_eq_take]
  exact eq_comm
 ·rw[ax (by omega)]
  congr 3
  symm
  rw[Bool.eq_false_iff]
  intro hp
  exact h (ay_.1 hp).length_le
theorem oh (s p:af) (hs:s.length≤9223372036854775807):dk (ba s) (ba p)=some ((p.isPrefixOf s,()),()):=by
 rw[u7,so s p hs]
 rfl
theorem rJ (s p:af) (hs:s.length≤9223372036854775807):cu (ba s) (ba p)=some ((ba (if p.isPrefixOf s=true then s.drop p.length else s),p.isPrefixOf s,()),()):=by
 rw[u6,qu,so s p hs]
 simp only[S1]
 cases hp:p.isPrefixOf s with
 | false=>rfl
 | true =>
  have:=(ay_.1 hp).length_le
  simp only[V6,S9,U6,V4,aN]
  rw[fj this]
  rfl
theorem sq (s c:af) (hc:nV (ba c)=true):fI (ba s) (ba c)=some ((ba (s.dropWhile (c.contains ·)),()),()):=by
 rw[wj]
 show(if nV (ba c)=true then some (((⟨(Lib.trimLeftS (lb (ba s)) (lb (ba c))).toArray⟩:S0),()),()) else none)=_
 rw[S6 hc,dq,dq]
 rfl
theorem xA {α:Type} (p:α→Bool) (l:List α):l.take (l.length - (l.dropWhile p).length)=l.takeWhile p∧l.drop (l.length - (l.dropWhile p).length)=l.dropWhile p∧(l.dropWhile p).length≤l.length:=by
 have h:=cu_ (p:=p) (l:=l)
 have hl:(l.takeWhile p).length+(l.dropWhile p).length=l.length:=by rw[←S5,h]
 have e:l.length - (l.dropWhile p).length=(l.takeWhile p).length:=by omega
 refine⟨?_,?_,by omega⟩
 ·rw[e]
  have:=du_ (l₁:=l.takeWhile p) (l₂:=l.dropWhile p) rfl
  rw[h] at this
  exact this
 ·rw[e]
  have:=List.drop_left' (l₁:=l.takeWhile p) (l₂:=l.dropWhile p) rfl
  rw[h] at this
  exact this
theorem eU (c:UInt8) (l:af) (a:UInt8):([a]:af).isPrefixOf (c :: l)=decide (c=a):=by
 show(a == c && ([]:af).isPrefixOf l)=_
 rw[show([]:af).isPrefixOf l=true by cases l <;> rfl,cy_,Y7,X3,T0]
 exact eq_comm
theorem Aa (c:UInt8) (t:af):([c]:af).isPrefixOf t=decide (t.head? = some c):=by
 cases t with
 | nil=>rfl
 | cons y t=>rw[eU]; simp
theorem Ab (y:UInt8) (t:af) (a c:UInt8):([a,c]:af).isPrefixOf (y :: t)=(decide (y=a) && decide (t.head? = some c)):=by
 show(a == y && ([c]:af).isPrefixOf t)=_
 rw[Aa]
 congr 1
 rw[Y7,X3,T0]
 exact eq_comm
theorem CX (y c:UInt8) {n:Int} (hn:(c.toNat:Int)=n):((y.toNat:Int) == n)=decide (y=c):=by
 rw[Y7,X3,T0,←hn]
 constructor
 ·intro e
  apply UInt8.toNat_inj.1
  omega
 ·intro e
  rw[e]
theorem Ac {p:UInt8→Prop} [DecidablePred p] (h : ∀ n:Fin 256,p (UInt8.ofNat n.val)) (c:UInt8):p c:=by
 have:=h ⟨c.toNat,c.toNat_lt⟩
 simpa using this
def dX (c:UInt8):Bool:=decide (65≤c.toNat) && decide (c.toNat≤90)
def da (c:UInt8):Bool:=decide (48≤c.toNat) && decide (c.toNat≤57)
def bu (a:Nat) (l:af):Nat:=l.foldl (fun a c=>a*10+(c.toNat - 48)) a
theorem xB (a:Nat) (l:af) (c:UInt8):bu a (l++[c])=bu a l*10+(c.toNat - 48):=by simp[bu]
theorem BW {u:Nat} (h:u < 10):U8 u=[UInt8.ofNat (48+u)]:=Lib.decDigits_one h
theorem GC {u:Nat} (h : ¬u < 10):U8 u=U8 (u / 10)++[UInt8.ofNat (48+u % 10)]:=by
 rw[U8,dif_neg h]
theorem K2 {x:Nat} (h:x < 10):(UInt8.ofNat (48+x)).toNat=48+x:=by
 rw[UInt8.toNat_ofNat']
 omega
theorem MM {m x:af} (h:m≠[]):(m++x).head? = m.head? := by
 cases m with
 | nil=>exact V2 rfl h
 | cons a m=>rfl
def gW (l:af):Bool:=l.all da && decide (1≤l.length) && (decide (l.length=1) || !decide (l.head? = some 48))
theorem GD : ∀(n u:Nat),u≤n→bu 0 (U8 u)=u∧gW (U8 u)=true∧(10≤u→2≤(U8 u).length)∧(1≤u→(U8 u).head? ≠ some 48)
 | n,u,hn=>by
  by_cases h:u < 10
  ·rw[BW h]
   have e:=K2 h
   refine⟨by simp[bu]; omega,?_,fun h2=>by omega,fun h1 h2 => ?_⟩
   ·simp only[gW,da,an_,List.all_nil,e]
    simp
    omega
   ·simp only[ah_,U3] at h2
    rw[h2] at e
    have:(48:UInt8).toNat=48:=rfl
    omega
  ·cases n with
   | zero=>omega
   | succ n =>
    obtain⟨h1,h2,h3,h4⟩:=GD n (u / 10) (by omega)
    rw[GC h,xB,h1,K2 (Nat.mod_lt _ (by decide))]
    have h4:=h4 (by omega)
    simp only[gW,S8,T0] at h2
    obtain⟨⟨k1,k2⟩,k3⟩:=h2
    have hne:U8 (u / 10)≠[]:=by
     intro e
     rw[e] at k2
     simp at k2
    have hh:(U8 (u / 10)++[UInt8.ofNat (48+u % 10)]).head? ≠ some 48:=by
     rw[MM hne]
     exact h4
    refine⟨by omega,?_,fun _=>by rw[S5,S3]; omega,fun _=>hh⟩
    simp only[gW,bi_,k1,an_,List.all_nil,da,K2 (Nat.mod_lt u (show 0 < 10 by decide)),S8,bd_,T0]
    refine⟨⟨by simp; omega,by simp⟩,.inr (by simpa using hh)⟩
theorem qP (u:Nat):bu 0 (U8 u)=u:=(GD u u (T7 _)).1
theorem Ad (u:Nat):gW (U8 u)=true:=(GD u u (T7 _)).2.1
theorem Jg {c:UInt8} (h:da c=true):UInt8.ofNat (48+(c.toNat - 48))=c:=by
 simp only[da,S8,T0] at h
 have:48+(c.toNat - 48)=c.toNat:=by omega
 rw[this]
 simp
theorem Jh : ∀(l:af),gW l=true→U8 (bu 0 l)=l∧(l.head? ≠ some 48→1≤bu 0 l):=by
 intro l
 induction hn:l.length using Nat.strongRecOn generalizing l with
 | ind n ih =>
  intro h
  rcases List.eq_nil_or_concat l with rfl | ⟨m,c,rfl⟩
  ·simp[gW] at h
  ·rw[List.concat_eq_append] at *
   simp only[gW,S8,bd_,T0,bi_,an_,List.all_nil,cy_] at h
   obtain⟨⟨⟨k1,k0⟩,k2⟩,k3⟩:=h
   have kd:48≤c.toNat∧c.toNat≤57:=by simpa[da] using k0
   rw[xB]
   by_cases hm:m=[]
   ·subst hm
    have e:bu 0 []*10+(c.toNat - 48)=c.toNat - 48:=by simp[bu]
    rw[e,BW (by omega),Jg k0]
    refine⟨rfl,fun hh => ?_⟩
    have:c.toNat≠48:=by
     intro e
     apply hh
     simp only[List.nil_append,ah_]
     congr 1
     exact UInt8.toNat_inj.1 e
    omega
   ·have hm1:1≤m.length:=List.length_pos_iff.2 hm
    have hh:(m++[c]).head? = m.head? := MM hm
    have k4:m.head? ≠ some 48:=by
     rcases k3 with k3 | k3
     ·rw[S5,S3] at k3
      omega
     ·rw[hh] at k3
      simpa using k3
    obtain⟨i1,i2⟩:=ih m.length (by rw[←hn,S5,S3]; omega) m rfl (by
     simp only[gW,S8,bd_,T0]
     exact⟨⟨k1,hm1⟩,.inr (by simpa using k4)⟩)
    have i2:=i2 k4
    refine⟨?_,fun _=>by omega⟩
    rw[GC (by omega)]
    have e1:(bu 0 m*10+(c.toNat - 48)) / 10=bu 0 m:=by omega
    have e2:(bu 0 m*10+(c.toNat - 48)) % 10=c.toNat - 48:=by omega
    rw[e1,e2,i1,Jg k0]
theorem m6 (u:Nat):d8 (u:Int)=ba (U8 u):=rH u
theorem yo : ∀(l:af) (a:Nat),l.all da=true→bu a l < (a+1)*10 ^ l.length
 | [],a,_=>by simp[bu]
 | c :: l,a,h=>by
  simp only[an_,S8] at h
  have kd:48≤c.toNat∧c.toNat≤57:=by simpa[da] using h.1
  have:=yo l (a*10+(c.toNat - 48)) h.2
  show bu (a*10+(c.toNat - 48)) l < _
  refine X1 this ?_
  rw[T3,Nat.pow_succ]
  have:a*10+(c.toNat - 48)+1≤(a+1)*10:=by omega
  calc (a*10+(c.toNat - 48)+1)*10 ^ l.length≤((a+1)*10)*10 ^ l.length:=Nat.mul_le_mul_right _ this
   _=(a+1)*(10 ^ l.length*10):=by rw[Nat.mul_assoc,Nat.mul_comm 10]
def fp (c:Nat):af:=if c≤26 then [UInt8.ofNat (64+c)] else [65,UInt8.ofNat (38+c)]
theorem MN : ∀ c:Fin 53,1≤c.val→c.val≤26→strOfNums ([(IntKind.u8.wrap (dz_ ea_ ((dz_ ea_ (65+(c.val:Int))) - 1)))]:List Int)=ba (fp c.val):=by decide +kernel
theorem MO : ∀ c:Fin 53,1≤c.val → ¬c.val≤26→strOfNums ([(IntKind.u8.wrap (dz_ ea_ ((dz_ ea_ (65+(dz_ ea_ (Int.tdiv (dz_ ea_ ((c.val:Int) - 1)) 26)))) - 1))),(IntKind.u8.wrap (dz_ ea_ (65+(cg_ (dz_ ea_ ((c.val:Int) - 1)) 26))))]:List Int)=ba (fp c.val):=by decide +kernel
theorem MP : ∀ c:Fin 53,1≤c.val→strOfNums ([(IntKind.u8.wrap (dz_ ea_ (65+(cg_ (dz_ ea_ ((c.val:Int) - 1)) 26))))]:List Int)=ba (if c.val≤26 then fp c.val else(fp c.val).drop 1):=by decide +kernel
theorem MQ : ∀ c:Fin 53,1≤c.val→IntKind.i64.wrap (Int.tdiv (dz_ ea_ ((c.val:Int) - 1)) 26)=if c.val≤26 then 0 else 1:=by decide +kernel
theorem zj {c:Nat} (h1:1≤c) (h2:c≤52):mY (c:Int)=some ((ba (fp c),()),()):=by
 rw[Ir,eC]
 simp only[S1]
 rw[show cl (c:Int) 1 52=true from bU.2 ⟨by omega,by omega⟩]
 simp only[V6,S9,U6]
 by_cases h:c≤26
 ·rw[aC (by omega),MN ⟨c,by omega⟩ h1 h]
 ·rw[ax (by omega),MO ⟨c,by omega⟩ h1 h]
theorem qQ (c:Nat):1≤(fp c).length∧(fp c).length≤2:=by
 unfold fp
 split <;> simp
theorem zk {c:Nat} (h1:1≤c) (h2:c≤52):qd (c:Int)=some ((ba (fp c),()),()):=by
 have k1:=MP ⟨c,by omega⟩ h1
 have k2:=MQ ⟨c,by omega⟩ h1
 have kl:=qQ c
 rw[H9,jA]
 simp only[S1]
 rw[show cl (c:Int) 1 52=true from bU.2 ⟨by omega,by omega⟩]
 simp only[V6,S9,U6]
 simp only at k1 k2
 rw[jY,aC (by omega),k1,k2]
 by_cases h:c≤26
 ·rw[S6 h,S6 h,bz (by simp only[V3]; omega),jY,ax (by decide),W9]
 ·rw[S4 h,S4 h,bz (by simp only[V3,bu_]; omega),jY,aC (by decide),W9]
  have k3':strOfNums ([(IntKind.u8.wrap (dz_ ea_ (65+(cg_ (dz_ ea_ ((1:Int) - 1)) 26))))]:List Int)=ba [65]:=by decide +kernel
  have k4':IntKind.i64.wrap (Int.tdiv (dz_ ea_ ((1:Int) - 1)) 26)=0:=by decide +kernel
  rw[k3',k4',bz (by simp only[T3,V3,bu_]; omega),jY,ax (by decide)]
  congr 3
  unfold fp
  rw[S4 h]
  rfl
theorem Ae {P:S0→Int→Option ((Int×Unit)×Unit)} {C:Int→Option ((S0×Unit)×Unit)}
  (hP : ∀ x n,P x n=if decide (n≤52)=true then(C n).bind fun z1=>(if(S2 z1.1.1 == S2 x)=true then some ((n,()),()) else P x (dz_ ea_ (n+1))) else some ((0,()),()))
  (hC : ∀ c:Nat,1≤c→c≤52→C (c:Int)=some ((ba (fp c),()),())) (w:af) : ∀ k n:Nat,n+k=53→1≤n→P (ba w) (n:Int)=some ((((((List.range' n k).find? fun m=>decide (fp m=w)).getD 0:Nat):Int),()),())
 | 0,n,h,_=>by
  rw[hP,ax (by omega)]
  rfl
 | k+1,n,h,h1=>by
  rw[hP,aC (by omega),hC n h1 (by omega)]
  simp only[S1,di,List.range'_succ,List.find?_cons]
  by_cases he:fp n=w
  ·simp[he]
  ·rw[S4 (by simpa using he),wr (by omega) (by omega)]
   simp only[he,Z0]
   exact Ae hP hC w k (n+1) (by omega) (by omega)
def iw (w:af):Nat:=((List.range' 1 52).find? fun m=>decide (fp m=w)).getD 0
theorem IC (w:af):zN (ba w)=some ((((iw w:Nat):Int),()),()):=by
 rw[It]
 exact Ae (fun x n=>CU) (fun c h1 h2=>zj h1 h2) w 52 1 rfl (T7 _)
theorem IE (w:af):mV (ba w)=some ((((iw w:Nat):Int),()),()):=by
 rw[Ia]
 exact Ae (fun x n=>CS) (fun c h1 h2=>zk h1 h2) w 52 1 rfl (T7 _)
theorem BX : ∀ m:Fin 53,1≤m.val→iw (fp m.val)=m.val:=by decide +kernel
theorem MR {w:af} (h:1≤iw w):iw w≤52∧fp (iw w)=w:=by
 unfold iw at h ⊢
 cases hf:(List.range' 1 52).find? fun m=>decide (fp m=w) with
 | none=>rw[hf] at h; simp at h
 | some m =>
  have h1:=List.find?_some hf
  have h2:=List.mem_of_find?_eq_some hf
  rw[List.mem_range'_1] at h2
  simp only[Z6]
  exact⟨by omega,by simpa using h1⟩
def m7 (b:Bool):af:=if b=true then [36] else []
def tP (c r:Nat) (fc fr:Bool):af:=m7 fc++(fp c++(m7 fr++U8 r))
def jd (p:b9):af:=tP p.1.1.toNat p.1.2.1.toNat p.2.1 p.2.2.1
theorem oi {r:aA}:bT r=true↔(1≤r.1∧r.1≤52)∧1≤r.2.1∧r.2.1≤99:=by
 unfold bT
 rw[S8,bU,bU]
theorem ph {r:Nat} (h:r≤99):(U8 r).length≤2:=BM 1 r (by omega)
theorem iL (p:b9):io p=some ((if bT p.1=true then ba (jd p) else ba [],()),()):=by
 rw[E2,rF]
 simp only[S1]
 cases hr:bT p.1 with
 | false=>rfl
 | true =>
  simp only[V6,S9,U6,V4]
  obtain⟨⟨c,r,u⟩,fc,fr,u'⟩:=p
  obtain⟨⟨h1,h2⟩,h3,h4⟩:=oi.1 hr
  simp only at h1 h2 h3 h4 ⊢
  obtain⟨c,rfl⟩ : ∃ n:Nat,c=n:=⟨c.toNat,by omega⟩
  obtain⟨r,rfl⟩ : ∃ n:Nat,r=n:=⟨r.toNat,by omega⟩
  have kc:=qQ c
  have kr:=ph (r:=r) (by omega)
  have e1:mY (c:Int)=some ((ba (fp c),()),()):=zj (by omega) (by omega)
  have e2:en (r:Int)=some ((ba (U8 r),()),()):=by rw[gy (by omega) (by omega),m6]
  unfold jd tP
  simp only[bg_]
  cases fc <;> cases fr <;> simp only[e1,e2,S1,V4,U6,S9,m7]
  all_goals
   repeat rw[bz (by first | omega | (simp only[S5,T3,V3]; omega))]
   simp
theorem iM (p:b9):ck p=some ((if bT p.1=true then ba (jd p) else ba [],()),()):=by
 rw[ER,lB]
 simp only[S1]
 cases hr:bT p.1 with
 | false=>rfl
 | true =>
  simp only[V6,S9,U6,V4]
  obtain⟨⟨c,r,u⟩,fc,fr,u'⟩:=p
  obtain⟨⟨h1,h2⟩,h3,h4⟩:=oi.1 hr
  simp only at h1 h2 h3 h4 ⊢
  obtain⟨c,rfl⟩ : ∃ n:Nat,c=n:=⟨c.toNat,by omega⟩
  obtain⟨r,rfl⟩ : ∃ n:Nat,r=n:=⟨r.toNat,by omega⟩
  have kc:=qQ c
  have kr:=ph (r:=r) (by omega)
  have e1:qd (c:Int)=some ((ba (fp c),()),()):=zk (by omega) (by omega)
  have e2:cQ (r:Int)=some ((ba (U8 r),()),()):=by rw[xw (by omega) (by omega),m6]
  unfold jd tP
  simp only[bg_]
  cases fc <;> cases fr <;> simp only[e1,e2,S1,V4,U6,S9,m7]
  all_goals
   repeat rw[bz (by first | omega | (simp only[S5,T3,V3]; omega))]
   simp
theorem zl {w:af} (hw:w.length≤18) : ∀(ys pre:af),w=pre++ys→pre.all da=true→ly (ba w) (bu 0 pre:Nat) (pre.length:Int)=some ((if ys.all da=true then((bu 0 w:Nat):Int) else 0,ys.all da,()),())
 | [],pre,h,hp=>by
  rw[W9] at h
  subst h
  rw[xq,ax (by rw[aN]; omega)]
  rfl
 | y :: ys,pre,h,hp=>by
  have hl:pre.length < w.length:=by rw[h]; simp
  rw[xq,aC (by rw[aN]; omega),gm h]
  by_cases h1:y.toNat < 48
  ·have hd:da y=false:=by simp[da]; omega
   rw[aC (by omega)]
   simp[hd]
  ·rw[ax (by omega),gm h]
   by_cases h2:57 < y.toNat
   ·have hd:da y=false:=by simp[da]; omega
    rw[aC (by omega)]
    simp[hd]
   ·have hd:da y=true:=by simp[da]; omega
    rw[ax (by omega),gm h]
    have hv:=yo pre 0 hp
    have hv2:10 ^ pre.length≤10 ^ 17:=cn_ (by decide) (by omega)
    have hv3:bu 0 pre < 100000000000000000:=by
     rw[Nat.zero_add,Nat.one_mul] at hv
     exact X1 hv hv2
    clear hv hv2
    have e1:IntKind.u8.wrap ((y.toNat:Int) - 48)=((y.toNat - 48:Nat):Int):=by rw[Sc (by omega) (by omega)]; omega
    have w1:IntKind.i64.wrap (((bu 0 pre:Nat):Int)*10)=((bu 0 pre:Nat):Int)*10:=wr (by omega) (by omega)
    have w2:IntKind.i64.wrap ((y.toNat - 48:Nat):Int)=((y.toNat - 48:Nat):Int):=wr (by omega) (by omega)
    rw[e1,w1,w2,wr (n:=((bu 0 pre:Nat):Int)*10+((y.toNat - 48:Nat):Int)) (by omega) (by omega),wr (n:=(pre.length:Int)+1) (by omega) (by omega)]
    have e2:((bu 0 pre:Nat):Int)*10+((y.toNat - 48:Nat):Int)=((bu 0 (pre++[y]):Nat):Int):=by rw[xB]; omega
    have e3:(pre.length:Int)+1=((pre++[y]).length:Int):=by simp
    rw[e2,e3,zl hw ys (pre++[y]) (by rw[h]; simp) (by simp[hp,hd])]
    simp[hd]
def cm (w:af) (m:Nat):Bool:=gW w && decide (w.length≤m)
theorem xC (w:af) {m:Nat} (hm:m≤18):cz (ba w) (m:Int)=some ((if cm w m=true then((bu 0 w:Nat):Int) else 0,cm w m,()),()):=by
 rw[Mz,aN]
 cases w with
 | nil =>
  rw[aC (by simp)]
  rfl
 | cons y ys =>
  have hlen:(y :: ys:af).length=ys.length+1:=rfl
  rw[ax (by omega)]
  by_cases h:(y :: ys:af).length≤m
  ·have hle:decide ((y :: ys:af).length≤m)=true:=U2 h
   rw[ax (by omega),qO]
   have hl:=zl (w:=y :: ys) (by omega) (y :: ys) [] rfl rfl
   have hl:ly (ba (y :: ys)) 0 0=_:=hl
   have h0n:decide (1≤(y :: ys:af).length)=true:=U2 (by omega)
   by_cases h0:y=48
   ·subst h0
    rw[S6 (by rfl)]
    by_cases h1:ys.length=0
    ·rw[ax (by omega),hl]
     have h1':decide ((48 :: ys:af).length=1)=true:=U2 (by omega)
     have e:cm (48 :: ys) m=(48 :: ys:af).all da:=by
      unfold cm gW
      rw[hle,h0n,h1']
      simp
     rw[e]
    ·rw[aC (by omega)]
     have h1':decide ((48 :: ys:af).length=1)=false:=U9 (by omega)
     have e:cm (48 :: ys) m=false:=by
      unfold cm gW
      rw[h1']
      simp
     rw[e]
     rfl
   ·have h0' : ¬((y.toNat:Int) == 48)=true:=by
     simp only[X3]
     intro e
     apply h0
     apply UInt8.toNat_inj.1
     show y.toNat=48
     omega
    rw[S4 h0',hl]
    have e:cm (y :: ys) m=(y :: ys:af).all da:=by
     have h2:decide ((y :: ys:af).head? = some 48)=false:=U9 (by simpa using h0)
     unfold cm gW
     rw[hle,h0n,h2]
     simp
    rw[e]
  ·rw[aC (by omega)]
   have e:cm (y :: ys) m=false:=by
    unfold cm
    rw[U9 h]
    simp
   rw[e]
   rfl
theorem Af {w:af} {m:Nat} (h:cm w m=true):U8 (bu 0 w)=w∧w.length≤m:=by
 unfold cm at h
 rw[S8,T0] at h
 exact⟨(Jh w h.1).1,h.2⟩
theorem xD {u m:Nat} (h:(U8 u).length≤m):cm (U8 u) m=true:=by
 unfold cm
 rw[Ad]
 simpa using h
theorem sr {w:af} (hw:w.length≤281474976710656):fK (ba w) 10 64=some (((b7 w).1,(b7 w).2,()),()):=by
 rw[wl]
 show(if(ba w).size≤281474976710656∧(10:Int)=10∧(64:Int)=64 then some (((b7 (lb (ba w))).1,(b7 (lb (ba w))).2,()),()) else none)=_
 rw[S6 ⟨by rw[aN]; exact hw,rfl,rfl⟩,dq]
theorem PI : ∀ r:Fin 10,(b7 [UInt8.ofNat (48+r.val)]).1=(r.val:Int):=by decide +kernel
theorem PJ : ∀ r:Fin 100,(b7 [UInt8.ofNat (48+r.val / 10),UInt8.ofNat (48+r.val % 10)]).1=(r.val:Int):=by decide +kernel
theorem MS {r:Nat} (h:r < 100):(b7 (U8 r)).1=(r:Int):=by
 by_cases h1:r < 10
 ·rw[Lib.decDigits_one h1]
  exact PI ⟨r,h1⟩
 ·rw[Lib.decDigits_two h1 h]
  exact PJ ⟨r,h⟩
theorem QO:(fun c=>([65,66,67,68,69,70,71,72,73,74,75,76,77,78,79,80,81,82,83,84,85,86,87,88,89,90]:af).contains c)=dX:=funext fun c=>Ac (p:=fun c=>([65,66,67,68,69,70,71,72,73,74,75,76,77,78,79,80,81,82,83,84,85,86,87,88,89,90]:af).contains c=dX c) (by decide +kernel) c
def bZ (w:af):Bool×af:=(([36]:af).isPrefixOf w,if([36]:af).isPrefixOf w=true then w.drop 1 else w)
theorem D6 (w:af):m7 (bZ w).1++(bZ w).2=w:=by
 unfold bZ m7
 cases w with
 | nil=>rfl
 | cons c l =>
  by_cases h:c=36
  ·subst h
   simp
  ·have:([36]:af).isPrefixOf (c :: l)=false:=by rw[eU]; simp[h]
   simp[this]
theorem GE {b:Bool} {w:af} (h:w.head? ≠ some 36):bZ (m7 b++w)=(b,w):=by
 unfold bZ m7
 cases b with
 | true=>simp
 | false =>
  cases w with
  | nil=>rfl
  | cons c l =>
   have h':c≠36:=fun e=>h (by rw[e]; rfl)
   have:([36]:af).isPrefixOf (c :: l)=false:=by rw[eU]; simp[h']
   simp[this]
theorem GF (w:af):(bZ w).2.length≤w.length:=by
 unfold bZ
 split <;> simp
def mq (w:af):b9:=((((iw ((bZ w).2.takeWhile dX):Nat):Int),(b7 (bZ ((bZ w).2.dropWhile dX)).2).1,()),(bZ w).1,(bZ ((bZ w).2.dropWhile dX)).1,())
theorem D7 (p:UInt8→Bool) (l:af):(l.dropWhile p).length≤l.length:=(xA p l).2.2
theorem QP {w:af} (hw:w.length≤9223372036854775807):cu (ba w) (⟨#[36]⟩:S0)=some ((ba (bZ w).2,(bZ w).1,()),()):=rJ w [36] hw
theorem GG {w:af} (hw:w.length≤281474976710656) :
  fo (ba w)=some ((if bT (mq w).1=true∧jd (mq w)=w then mq w else p0,decide (bT (mq w).1=true∧jd (mq w)=w),()),()):=by
 have l1:=GF w
 have l2:=D7 dX (bZ w).2
 have l3:=GF ((bZ w).2.dropWhile dX)
 obtain⟨d1,d2,d3⟩:=xA dX (bZ w).2
 rw[E3,QP (by omega)]
 simp only[S1]
 rw[sq _ _ (by decide +kernel),QO]
 simp only[S1,aN]
 rw[wr (by omega) (by omega),show((bZ w).2.length:Int) - (((bZ w).2.dropWhile dX).length:Int)=(((bZ w).2.length - ((bZ w).2.dropWhile dX).length:Nat):Int) by omega,BV (by omega),d1,IC]
 simp only[S1]
 rw[fj (by omega),d2,QP (by omega)]
 simp only[S1]
 rw[sr (by omega)]
 simp only[S1,rF,iL]
 have e:mq w=((((iw ((bZ w).2.takeWhile dX):Nat):Int),(b7 (bZ ((bZ w).2.dropWhile dX)).2).1,()),(bZ w).1,(bZ ((bZ w).2.dropWhile dX)).1,()):=rfl
 rw[←e]
 have e1:(((iw ((bZ w).2.takeWhile dX):Nat):Int),(b7 (bZ ((bZ w).2.dropWhile dX)).2).1,())=(mq w).1:=rfl
 rw[e1]
 cases hr:bT (mq w).1 with
 | false=>simp
 | true =>
  simp only[V6,S9,U6,V4,di,true_and]
  by_cases hp:jd (mq w)=w
  ·simp[hp]
  ·simp[hp]
theorem Ji : ∀ c:Fin 53,1≤c.val→(fp c.val).all dX=true:=by decide +kernel
theorem RM {y:UInt8} (h:dX y=true):y≠36:=by
 rintro rfl
 exact V2 h (by decide)
theorem Pk {y:UInt8} (h:da y=true):y≠36∧dX y=false:=by
 refine⟨?_,?_⟩
 ·rintro rfl
  exact V2 h (by decide)
 ·simp only[da,dX,S8,T0,Bool.and_eq_false_iff,decide_eq_false_iff_not] at h ⊢
  omega
theorem BZ (u:Nat) : ∃ y l,U8 u=y :: l∧da y=true:=by
 have h:=Ad u
 unfold gW at h
 simp only[S8,T0] at h
 cases hd:U8 u with
 | nil=>rw[hd] at h; simp at h
 | cons y l =>
  rw[hd] at h
  refine⟨y,l,rfl,?_⟩
  have:=h.1.1
  simp only[an_,S8] at this
  exact this.1
theorem PK {c:Nat} (h1:1≤c) (h2:c≤52) (x:af):(fp c++x).head? ≠ some 36:=by
 have h:=Ji ⟨c,by omega⟩ h1
 have hl:=qQ c
 simp only at h
 cases hc:fp c with
 | nil=>rw[hc] at hl; simp at hl
 | cons y l =>
  rw[hc] at h
  simp only[an_,S8] at h
  intro e
  simp only[be_,ah_,U3] at e
  exact RM h.1 e
theorem GH {c r:Nat} (h1:1≤c) (h2:c≤52) (fc fr:Bool):(bZ (tP c r fc fr)).1=fc∧(bZ (tP c r fc fr)).2.takeWhile dX=fp c∧(bZ ((bZ (tP c r fc fr)).2.dropWhile dX)).1=fr∧(bZ ((bZ (tP c r fc fr)).2.dropWhile dX)).2=U8 r:=by
 unfold tP
 rw[GE (PK h1 h2 _)]
 have hu:=Z2.1 (Ji ⟨c,by omega⟩ h1)
 simp only at hu ⊢
 obtain⟨y,l,hy,hd⟩:=BZ r
 have hn : ∃ z m,m7 fr++U8 r=z :: m∧dX z=false:=by
  cases fr with
  | true=>exact⟨36,_,rfl,by decide⟩
  | false=>exact⟨y,l,hy,(Pk hd).2⟩
 obtain⟨z,m,hz,hzu⟩:=hn
 have ht:(m7 fr++U8 r).takeWhile dX=[]:=by rw[hz]; simp[hzu]
 have hdr:(m7 fr++U8 r).dropWhile dX=m7 fr++U8 r:=by rw[hz]; simp[hzu]
 rw[List.takeWhile_append_of_pos hu,List.dropWhile_append_of_pos hu,ht,hdr,W9,GE (by rw[hy]; simp only[ah_,ne_eq,U3]; exact(Pk hd).1)]
 simp
theorem xE {p:b9} (h:bT p.1=true) : ∃(c r:Nat) (fc fr:Bool),p=(((c:Int),(r:Int),()),fc,fr,())∧1≤c∧c≤52∧1≤r∧r≤99:=by
 obtain⟨⟨c,r,u⟩,fc,fr,u'⟩:=p
 obtain⟨⟨h1,h2⟩,h3,h4⟩:=oi.1 h
 simp only at h1 h2 h3 h4
 refine⟨c.toNat,r.toNat,fc,fr,?_,by omega,by omega,by omega,by omega⟩
 rw[ak_ (by omega),ak_ (by omega)]
theorem PL {p:b9} (h:bT p.1=true):mq (jd p)=p:=by
 obtain⟨c,r,fc,fr,rfl,h1,h2,h3,h4⟩:=xE h
 obtain⟨e1,e2,e3,e4⟩:=GH (r:=r) h1 h2 fc fr
 show mq (tP c r fc fr)=_
 unfold mq
 rw[e1,e2,e3,e4,BX ⟨c,by omega⟩ h1,MS (by omega)]
def mr (fc:Bool) (ls w2:af):b9×Bool :=
 if cm (bZ w2).2 2=true∧bT (((iw ls:Nat):Int),((bu 0 (bZ w2).2:Nat):Int),())=true then(((((iw ls:Nat):Int),((bu 0 (bZ w2).2:Nat):Int),()),fc,(bZ w2).1,()),true) else(p0,false)
def cn (w:af):b9×Bool:=mr (bZ w).1 ((bZ w).2.takeWhile dX) ((bZ w).2.dropWhile dX)
theorem K3 {fc:Bool} {ls w2:af} {f1:Bool} {w3:af} (h:bZ w2=(f1,w3)) :
  ((cz (ba w3) 2).bind fun z2=>(if(!z2.1.2.1)=true then(some ((((0,0,()),false,false,()),false,()),(()))) else((dx (((iw ls:Nat):Int),z2.1.1,())).bind fun z3=>(if(!z3.1.1)=true then(some ((((0,0,()),false,false,()),false,()),(()))) else(some (((((((iw ls:Nat):Int),z2.1.1,()),fc,f1,()):b9),true,()),(())))))))=some (((mr fc ls w2).1,(mr fc ls w2).2,()),()):=by
 have e:=xC w3 (m:=2) (by decide)
 have e:cz (ba w3) 2=_:=e
 rw[e]
 simp only[S1,lB]
 unfold mr
 rw[h]
 cases hr:cm w3 2 with
 | false=>simp
 | true =>
  simp only[V6,S9,U6,V4,true_and]
  cases ho:bT (((iw ls:Nat):Int),((bu 0 w3:Nat):Int),()) with
  | false=>simp
  | true=>simp
theorem Sd {fc:Bool} {w1 pre ys:af} (h:w1=pre++ys) (hl:w1.length≤9223372036854775807) :
  (yQ (ba w1) (pre.length:Int) fun y7=>((mV y7).bind fun z8=>(gJ (ba w1) (pre.length:Int) fun y8=>(if(decide ((U1 y8:Int) > 0))=true then(dn y8 0 fun y9=>(if(y9 == 36)=true then(gJ y8 1 fun y10=>((cz y10 2).bind fun z9=>(if(!z9.1.2.1)=true then(some ((((0,0,()),false,false,()),false,()),(()))) else((dx (z8.1.1,z9.1.1,())).bind fun z10=>(if(!z10.1.1)=true then(some ((((0,0,()),false,false,()),false,()),(()))) else(some ((((z8.1.1,z9.1.1,()),fc,true,()),true,()),(())))))))) else((cz y8 2).bind fun z11=>(if(!z11.1.2.1)=true then(some ((((0,0,()),false,false,()),false,()),(()))) else((dx (z8.1.1,z11.1.1,())).bind fun z12=>(if(!z12.1.1)=true then(some ((((0,0,()),false,false,()),false,()),(()))) else(some ((((z8.1.1,z11.1.1,()),fc,false,()),true,()),(()))))))))) else((cz y8 2).bind fun z13=>(if(!z13.1.2.1)=true then(some ((((0,0,()),false,false,()),false,()),(()))) else((dx (z8.1.1,z13.1.1,())).bind fun z14=>(if(!z14.1.1)=true then(some ((((0,0,()),false,false,()),false,()),(()))) else(some ((((z8.1.1,z13.1.1,()),fc,false,()),true,()),(())))))))))))
   = (some (((mr fc pre ys).1,(mr fc pre ys).2,()),()):Option ((b9×Bool×Unit)×Unit)):=by
 subst h
 have hle:pre.length≤(pre++ys).length:=by simp
 rw[BV hle,du_ rfl,IE]
 simp only[S1]
 rw[fj hle,List.drop_left' rfl,aN]
 cases ys with
 | nil =>
  rw[ax (by simp)]
  exact K3 rfl
 | cons y l =>
  rw[aC (by simp),qO]
  by_cases hy:y=36
  ·subst hy
   rw[S6 (by rfl),show(1:Int)=((1:Nat):Int) from rfl,fj (by simp)]
   exact K3 (by unfold bZ; rw[eU]; simp)
  ·have h0' : ¬((y.toNat:Int) == 36)=true:=by
    simp only[X3]
    intro e
    apply hy
    apply UInt8.toNat_inj.1
    show y.toNat=36
    omega
   rw[S4 h0']
   exact K3 (by unfold bZ; rw[eU]; simp[hy])
theorem je {fc:Bool} {w1:af} (hl:w1.length≤9223372036854775806) : ∀(ys pre:af),w1=pre++ys→fZ (ba w1) (pre.length:Int) 0 0 false false 0 0 fc false=some (((mr fc (pre++ys.takeWhile dX) (ys.dropWhile dX)).1,(mr fc (pre++ys.takeWhile dX) (ys.dropWhile dX)).2,()),())
 | [],pre,h=>by
  have hlen:w1.length=pre.length:=by rw[h]; simp
  rw[qx,ax (by rw[aN]; omega)]
  simpa using Sd (fc:=fc) h (by omega)
 | y :: ys,pre,h=>by
  have hlen:pre.length < w1.length:=by rw[h]; simp
  rw[qx,aC (by rw[aN]; omega),gm h]
  cases hu:dX y with
  | true =>
   have hu':65≤y.toNat∧y.toNat≤90:=by simpa[dX] using hu
   rw[aC (by omega),gm h,aC (by omega),wr (by omega) (by omega),show(pre.length:Int)+1=((pre++[y]).length:Int) by simp,je hl ys (pre++[y]) (by rw[h]; simp)]
   simp[hu]
  | false =>
   have hk:=Sd (fc:=fc) h (by omega)
   rw[List.takeWhile_cons_of_neg (by simp[hu]),List.dropWhile_cons_of_neg (by simp[hu]),W9]
   by_cases h1:65≤y.toNat
   ·have h2 : ¬y.toNat≤90:=by
     intro h2
     simp[dX,h1,h2] at hu
    rw[aC (by omega),gm h,ax (by omega)]
    exact hk
   ·rw[ax (by omega)]
    exact hk
theorem oF {w:af} (hw:w.length≤281474976710656):jV (ba w)=some (((cn w).1,(cn w).2,()),()):=by
 rw[EM,aN]
 cases w with
 | nil =>
  rw[ax (by simp)]
  exact je (fc:=false) (w1:=[]) (by simp) [] [] rfl
 | cons y l =>
  rw[T3] at hw
  rw[aC (by simp),qO]
  by_cases hy:y=36
  ·subst hy
   rw[S6 (by rfl),show(1:Int)=((1:Nat):Int) from rfl,fj (by simp)]
   have:=je (fc:=true) (w1:=l) (by omega) l [] rfl
   have e:bZ (36 :: l)=(true,l):=by unfold bZ; rw[eU]; simp
   unfold cn
   rw[e]
   exact this
  ·have h0' : ¬((y.toNat:Int) == 36)=true:=by
    simp only[X3]
    intro e
    apply hy
    apply UInt8.toNat_inj.1
    show y.toNat=36
    omega
   rw[S4 h0']
   have:=je (fc:=false) (w1:=y :: l) (by rw[T3]; omega) (y :: l) [] rfl
   have e:bZ (y :: l)=(false,y :: l):=by unfold bZ; rw[eU]; simp[hy]
   unfold cn
   rw[e]
   exact this
theorem PM {w:af} (h:(cn w).2=true):bT (cn w).1.1=true∧jd (cn w).1=w:=by
 unfold cn mr at h ⊢
 split at h
 ·rename_i hc
  rw[S6 hc]
  refine⟨hc.2,?_⟩
  obtain⟨⟨k1,k2⟩,k3,k4⟩:=oi.1 hc.2
  simp only at k1 k2 k3 k4
  obtain⟨c1,c2⟩:=MR (w:=(bZ w).2.takeWhile dX) (by omega)
  obtain⟨r1,r2⟩:=Af hc.1
  unfold jd tP
  simp only[bg_]
  rw[c2,r1,D6,cu_,D6]
 ·cases h
theorem MT {p:b9} (h:bT p.1=true):cn (jd p)=(p,true):=by
 obtain⟨c,r,fc,fr,rfl,h1,h2,h3,h4⟩:=xE h
 obtain⟨e1,e2,e3,e4⟩:=GH (r:=r) h1 h2 fc fr
 show cn (tP c r fc fr)=_
 unfold cn mr
 rw[e1,e2,e3,e4,BX ⟨c,by omega⟩ h1,qP,S6 ⟨xD (ph h4),h⟩]
theorem PN {w:af} (h:(cn w).2=false):cn w=(p0,false):=by
 unfold cn mr at h ⊢
 split at h
 ·cases h
 ·rename_i hc
  rw[S4 hc]
theorem kQ {w:af} (hw:w.length≤281474976710656):fo (ba w)=some (((cn w).1,(cn w).2,()),()):=by
 rw[GG hw]
 by_cases h:bT (mq w).1=true∧jd (mq w)=w
 ·have:=MT h.1
  rw[h.2] at this
  rw[S6 h,U2 h,this]
 ·rw[S4 h,U9 h]
  cases h2:(cn w).2 with
  | false=>rw[PN h2]
  | true =>
   obtain⟨k1,k2⟩:=PM h2
   refine V2 ?_ h
   have:=PL k1
   rw[k2] at this
   rw[this]
   exact⟨k1,k2⟩
def gn:af:=[84,82,85,69]
def gX:af:=[70,65,76,83,69]
def dN (w:af):Int:=if c8 5=ba w then 5 else if c8 4=ba w then 4 else if c8 3=ba w then 3 else if c8 2=ba w then 2 else if c8 1=ba w then 1 else 0
theorem PO {w:af} (h:dN w≠0):c8 (dN w)=ba w∧1≤dN w∧dN w≤5:=by
 unfold dN at h ⊢
 split
 ·exact⟨‹_›,by decide,by decide⟩
 ·split
  ·exact⟨‹_›,by decide,by decide⟩
  ·split
   ·exact⟨‹_›,by decide,by decide⟩
   ·split
    ·exact⟨‹_›,by decide,by decide⟩
    ·split
     ·exact⟨‹_›,by decide,by decide⟩
     ·rename_i h1 h2 h3 h4 h5
      simp[h1,h2,h3,h4,h5] at h
theorem D8 : ∀ n:Fin 6,1≤n.val→dN (lb (c8 (n.val:Int)))=(n.val:Int):=by decide +kernel
def wa (w:af):aI :=
 if w=[] then v0 else
 if w.head? = some 39 then vT (ba (w.drop 1)) else
 if w=gn then vB true else
 if w=gX then vB false else
 if w.head? = some 35 then(4,dN w,eS,()) else
 if w.head? = some 45 then(if cm (w.drop 1) 16=true∧bu 0 (w.drop 1)≠0 then vN (-((bu 0 (w.drop 1):Nat):Int)) else(9,0,eS,())) else
 if cm w 16=true then vN ((bu 0 w:Nat):Int) else(9,0,eS,())
def bP (w:af):aI×Bool:=if bm (wa w)=true then(wa w,true) else(v0,false)
theorem Jj {v:aI} (h:v.2.2.1.size≤9223372036854775807) {a b:Int} {c:S0}:aJ a b c v.1 v.2.1 v.2.2.1=some ((if bm v=true then v else v0,bm v,()),()):=by
 rw[yI,show(v.1,v.2.1,v.2.2.1,())=v from rfl,kz h]
 simp only[S1]
 cases bm v <;> rfl
theorem qR {w:af} {n:Int} (h0:0≤n) (h1:n≤5) {a b e N:Int} {c f:S0}:dL (ba w) n a b c e N f=dL (ba w) (n+1) a b c e (if c8 n=ba w then n else N) f:=by
 rw[oO,aC h1,ve h0 h1]
 simp only[S1,j0,T0]
 rw[wr (by omega) (by omega)]
 split <;> rfl
theorem QQ {w:af}:dL (ba w) 1 0 0 eS 4 0 eS=some ((if bm (4,dN w,eS,())=true then(4,dN w,eS,()) else v0,bm (4,dN w,eS,()),()),()):=by
 rw[qR (by decide) (by decide),qR (by decide) (by decide),qR (by decide) (by decide),qR (by decide) (by decide),qR (by decide) (by decide),oO,ax (by decide)]
 exact Jj (v:=(4,dN w,eS,())) (by show eS.size≤_; decide)
theorem Oz {w:af} (hw:w.length≤9223372036854775807) {y:UInt8} {l:af} (h:w=y :: l) :
  (if((y.toNat:Int) == 45)=true then(gJ (ba w) 1 fun y5=>((cz y5 16).bind fun z1=>(if(!z1.1.2.1)=true then(some (((0,0,(⟨#[]⟩:S0),()),false,()),(()))) else(if((y.toNat:Int) == 45)=true then(if(z1.1.1 == 0)=true then(some (((0,0,(⟨#[]⟩:S0),()),false,()),(()))) else(if((y.toNat:Int) == 45)=true then(aJ 0 0 (⟨#[]⟩:S0) 1 (dz_ ea_ (0 - z1.1.1)) (⟨#[]⟩:S0)) else(aJ 0 0 (⟨#[]⟩:S0) 1 z1.1.1 (⟨#[]⟩:S0)))) else(if((y.toNat:Int) == 45)=true then(aJ 0 0 (⟨#[]⟩:S0) 1 (dz_ ea_ (0 - z1.1.1)) (⟨#[]⟩:S0)) else(aJ 0 0 (⟨#[]⟩:S0) 1 z1.1.1 (⟨#[]⟩:S0)))))))
   else((cz (ba w) 16).bind fun z2=>(if(!z2.1.2.1)=true then(some (((0,0,(⟨#[]⟩:S0),()),false,()),(()))) else(if((y.toNat:Int) == 45)=true then(if(z2.1.1 == 0)=true then(some (((0,0,(⟨#[]⟩:S0),()),false,()),(()))) else(if((y.toNat:Int) == 45)=true then(aJ 0 0 (⟨#[]⟩:S0) 1 (dz_ ea_ (0 - z2.1.1)) (⟨#[]⟩:S0)) else(aJ 0 0 (⟨#[]⟩:S0) 1 z2.1.1 (⟨#[]⟩:S0)))) else(if((y.toNat:Int) == 45)=true then(aJ 0 0 (⟨#[]⟩:S0) 1 (dz_ ea_ (0 - z2.1.1)) (⟨#[]⟩:S0)) else(aJ 0 0 (⟨#[]⟩:S0) 1 z2.1.1 (⟨#[]⟩:S0)))))))
   = (let v:aI:=if w.head? = some 45 then(if cm (w.drop 1) 16=true∧bu 0 (w.drop 1)≠0 then vN (-((bu 0 (w.drop 1):Nat):Int)) else(9,0,eS,())) else if cm w 16=true then vN ((bu 0 w:Nat):Int) else(9,0,eS,())
    some ((if bm v=true then v else v0,bm v,()),())):=by
 have e9:bm (9,0,eS,())=false:=by decide
 have hint : ∀ x:af,cz (ba x) 16=_:=fun x=>xC x (m:=16) (by decide)
 have hrange : ∀ x:af,cm x 16=true→bu 0 x < 10 ^ 16:=by
  intro x hx
  unfold cm gW at hx
  simp only[S8,T0] at hx
  have:=yo x 0 hx.1.1.1
  exact X1 (by simpa using this) (cn_ (by decide) hx.2)
 subst h
 by_cases hy:y=45
 ·subst hy
  have e:(((45:UInt8).toNat:Int) == 45)=true:=rfl
  simp only[e,V4,ah_,X5,Z7]
  rw[show(1:Int)=((1:Nat):Int) from rfl,fj (by simp)]
  simp only[X5,Z7,hint,S1]
  cases hr:cm l 16 with
  | false=>simp[e9]; rfl
  | true =>
   have:=hrange l hr
   by_cases h0:bu 0 l=0
   ·simp[h0,e9]; rfl
   ·have h0' : ¬(((bu 0 l:Nat):Int) == 0)=true:=by simp only[X3]; omega
    simp only[V6,S9,U6,V4,h0',ne_eq,h0,not_false_eq_true,and_self]
    rw[wr (by omega) (by omega),show(0:Int) - ((bu 0 l:Nat):Int) = -((bu 0 l:Nat):Int) by omega]
    exact Jj (v:=vN _) (by show eS.size≤_; decide)
 ·have e : ¬((y.toNat:Int) == 45)=true:=by
   simp only[X3]
   intro e
   apply hy
   apply UInt8.toNat_inj.1
   show y.toNat=45
   omega
  have e2 : ¬(some y=some (45:UInt8)):=by simpa using hy
  simp only[e,U6,ah_,e2,hint,S1]
  cases hr:cm (y :: l) 16 with
  | false=>simp[e9]; rfl
  | true =>
   have:=hrange _ hr
   simp only[V6,S9,U6,V4]
   exact Jj (v:=vN _) (by show eS.size≤_; decide)
theorem wb {w:af} (hw:w.length≤9223372036854775807):oW (ba w)=some (((bP w).1,(bP w).2,()),()):=by
 have gb : ∀ v:aI,wa w=v→some ((if bm v=true then v else v0,bm v,()),())=(some (((bP w).1,(bP w).2,()),()):Option ((aI×Bool×Unit)×Unit)):=by
  intro v hv
  unfold bP
  rw[hv]
  cases bm v <;> rfl
 rw[EO]
 have e0:(S2 (ba w) == S2 (⟨#[]⟩:S0))=decide (w=[]):=di (b:=[])
 have e1:(S2 (ba w) == S2 (⟨#[84,82,85,69]⟩:S0))=decide (w=gn):=di (b:=gn)
 have e2:(S2 (ba w) == S2 (⟨#[70,65,76,83,69]⟩:S0))=decide (w=gX):=di (b:=gX)
 rw[e0,e1,e2]
 cases w with
 | nil =>
  rw[aC rfl]
  exact gb v0 rfl
 | cons y l =>
  rw[ax (by simp)]
  simp only[qO]
  rw[CX y 39 (n:=39) rfl,CX y 35 (n:=35) rfl]
  have hv:=wa.eq_def (y :: l)
  rw[S4 (by simp)] at hv
  by_cases h39:y=39
  ·rw[aC h39,show(1:Int)=((1:Nat):Int) from rfl,fj (by simp)]
   rw[S6 (by rw[h39]; rfl)] at hv
   rw[T3] at hw
   exact(Jj (v:=vT (ba ((y :: l).drop 1))) (by show(ba _).size≤_; rw[aN]; simp; omega)).trans (gb _ hv)
  ·rw[ax h39]
   rw[S4 (by simpa using h39)] at hv
   by_cases ht:(y :: l)=gn
   ·rw[S6 ht] at hv
    rw[aC ht,aC ht,aC ht]
    exact(Jj (v:=vB true) (by decide)).trans (gb _ hv)
   ·rw[S4 ht] at hv
    rw[ax ht]
    by_cases hf:(y :: l)=gX
    ·rw[S6 hf] at hv
     rw[aC hf,ax ht]
     exact(Jj (v:=vB false) (by decide)).trans (gb _ hv)
    ·rw[S4 hf] at hv
     rw[ax hf]
     by_cases h35:y=35
     ·rw[aC h35]
      rw[S6 (by rw[h35]; rfl)] at hv
      exact QQ.trans (gb _ hv)
     ·rw[ax h35]
      rw[S4 (by simpa using h35)] at hv
      exact(Oz hw rfl).trans (gb _ hv)
theorem xF {n:Int} (h:n < 0):d8 n=ba (45 :: U8 (-n).toNat):=by
 rw[xv h,show -n=((-n).toNat:Int) by omega,m6,show(⟨#[45]⟩:S0)=ba [45] from rfl,og]
 congr 2
theorem GI {u:Nat}:U8 u≠[]∧(U8 u).head? ≠ some 39∧(U8 u).head? ≠ some 35∧(U8 u).head? ≠ some 45∧U8 u≠gn∧U8 u≠gX:=by
 obtain⟨y,l,hy,hd⟩:=BZ u
 rw[hy]
 have hn : ∀ c:UInt8,da c=false→y≠c:=by
  rintro c hc rfl
  rw[hd] at hc
  cases hc
 refine⟨by simp,?_,?_,?_,?_,?_⟩
 ·simpa using hn 39 (by decide)
 ·simpa using hn 35 (by decide)
 ·simpa using hn 45 (by decide)
 ·intro e
  exact hn 84 (by decide) (ce_ e).1
 ·intro e
  exact hn 70 (by decide) (ce_ e).1
theorem K4 {u:Nat} (h:u≤1000000000000000):(U8 u).length≤16:=BM 15 u (by omega)
theorem PP {v:aI} (h:bm v=true) (k:v.1≠2):v.2.2.1=eS:=by
 unfold bm at h
 rw[S4 k] at h
 simp only[S8,T0] at h
 exact h.1
theorem PQ {v:aI} (h:bm v=true) (k:v.1=0):v.2.1=0:=by
 unfold bm at h
 rw[S4 (by omega),S6 k] at h
 simp only[S8,T0] at h
 exact h.2
theorem PR {v:aI} (h:bm v=true) (k:v.1=2):v.2.1=0:=by
 unfold bm at h
 rw[S6 k] at h
 simp only[S8,T0] at h
 exact h.1
theorem su {v:aI} (h:bm v=true):v=v0∨(∃ n,v=vN n ∧ -1000000000000000≤n∧n≤1000000000000000)∨(∃ s,v=vT s)∨(∃ b,v=vB b) ∨ ∃ n:Fin 6,v=vE (n.val:Int)∧1≤n.val:=by
 obtain⟨k,n,s,u⟩:=v
 have hS:=fun hk=>PP h hk
 rcases KY h with hk | hk | hk | hk | hk <;> simp only at hk <;> subst hk
 ·have h0:=PQ h rfl
  have h1:=hS (by show(_:Int)≠2; omega)
  simp only at h0 h1
  subst h0; subst h1
  exact .inl rfl
 ·have h0:=yl h rfl
  have h1:=hS (by show(_:Int)≠2; omega)
  simp only at h0 h1
  subst h1
  exact .inr (.inl ⟨n,rfl,h0.1,h0.2⟩)
 ·have h0:=PR h rfl
  simp only at h0
  subst h0
  exact .inr (.inr (.inl ⟨s,rfl⟩))
 ·have h0:=Je h rfl
  have h1:=hS (by show(_:Int)≠2; omega)
  simp only at h0 h1
  subst h1
  refine .inr (.inr (.inr (.inl ⟨decide (n=1),?_⟩)))
  have:n=0∨n=1:=by omega
  rcases this with rfl | rfl <;> rfl
 ·have h0:=ym h rfl
  have h1:=hS (by show(_:Int)≠2; omega)
  simp only at h0 h1
  subst h1
  refine .inr (.inr (.inr (.inr ⟨⟨n.toNat,by omega⟩,?_,by simp; omega⟩)))
  show _=vE ((n.toNat:Nat):Int)
  rw[ak_ (by omega)]
  rfl
theorem OA {v:aI} (h:bm v=true):wa (lb (dy v))=v:=by
 rcases su h with rfl | ⟨n,rfl,h0,h1⟩ | ⟨s,rfl⟩ | ⟨b,rfl⟩ | ⟨n,rfl,h0⟩
 ·rfl
 ·have e:dy (vN n)=d8 n:=rfl
  rw[e]
  by_cases hn:n < 0
  ·rw[xF hn,dq]
   have hr:cm (U8 (-n).toNat) 16=true:=xD (K4 (by omega))
   unfold wa
   simp only[ah_,X5,Z7,hr,qP]
   rw[S4 (by simp),S4 (by decide),S4 (by unfold gn; simp),S4 (by unfold gX; simp),S4 (by decide),S6 trivial,S6 ⟨trivial,by omega⟩]
   congr 1
   omega
  ·rw[show n=(n.toNat:Int) by omega,m6,dq]
   have hr:cm (U8 n.toNat) 16=true:=xD (K4 (by omega))
   obtain⟨d1,d2,d3,d4,d5,d6⟩:=GI (u:=n.toNat)
   unfold wa
   rw[S4 d1,S4 d2,S4 d5,S4 d6,S4 d3,S4 d4,S6 hr,qP]
 ·have e:lb (dy (vT s))=39 :: lb s:=by
   show lb ((⟨#[39]⟩:S0)++s)=_
   rw[←jc s,show(⟨#[39]⟩:S0)=ba [39] from rfl,og,dq]
   simp
  rw[e]
  unfold wa
  rw[S4 (by simp),S6 (by rfl)]
  simp only[X5,Z7,jc]
 ·cases b <;> rfl
 ·have e:lb (dy (vE (n.val:Int)))=lb (c8 (n.val:Int)):=rfl
  rw[e]
  have h1 : ∀ n:Fin 6,1≤n.val→lb (c8 (n.val:Int))≠[]∧(lb (c8 (n.val:Int))).head? = some 35∧lb (c8 (n.val:Int))≠gn∧lb (c8 (n.val:Int))≠gX:=by decide +kernel
  obtain⟨a1,a2,a3,a4⟩:=h1 n h0
  unfold wa
  rw[S4 a1,S4 (by rw[a2]; decide),S4 a3,S4 a4,S6 a2,D8 n h0]
  rfl
theorem K5 {v:aI} (h:bm v=true):bP (lb (dy v))=(v,true):=by
 unfold bP
 rw[OA h,S6 h]
theorem QR {w:af} (h:bm (wa w)=true):dy (wa w)=ba w:=by
 unfold wa at h ⊢
 split
 ·rename_i hw
  rw[hw]
  rfl
 ·rename_i hw
  rw[S4 hw] at h
  split
  ·rename_i h39
   cases w with
   | nil=>cases h39
   | cons y l =>
    simp only[ah_,U3] at h39
    subst h39
    show(⟨#[39]⟩:S0)++ba l=_
    rw[show(⟨#[39]⟩:S0)=ba [39] from rfl,og]
    rfl
  ·rename_i h39
   rw[S4 h39] at h
   split
   ·rename_i ht
    rw[ht]
    rfl
   ·rename_i ht
    rw[S4 ht] at h
    split
    ·rename_i hf
     rw[hf]
     rfl
    ·rename_i hf
     rw[S4 hf] at h
     split
     ·rename_i h35
      rw[S6 h35] at h
      have:=ym h rfl
      simp only at this
      exact(PO (by omega)).1
     ·rename_i h35
      rw[S4 h35] at h
      have e9:bm (9,0,eS,())=false:=by decide
      split
      ·rename_i h45
       rw[S6 h45] at h
       split
       ·rename_i hc
        cases w with
        | nil=>cases h45
        | cons y l =>
         simp only[ah_,U3] at h45
         subst h45
         simp only[X5,Z7] at hc ⊢
         show d8 (-((bu 0 l:Nat):Int))=_
         rw[xF (by omega),show(- -((bu 0 l:Nat):Int)).toNat=bu 0 l by omega,(Af hc.1).1]
       ·rename_i hc
        rw[S4 hc,e9] at h
        cases h
      ·rename_i h45
       rw[S4 h45] at h
       split
       ·rename_i hc
        show d8 ((bu 0 w:Nat):Int)=_
        rw[m6,(Af hc).1]
       ·rename_i hc
        rw[S4 hc,e9] at h
        cases h
theorem qS {w:af} (h:(bP w).2=true):bm (bP w).1=true∧dy (bP w).1=ba w:=by
 unfold bP at h ⊢
 split at h
 ·rename_i hc
  rw[S6 hc]
  exact⟨hc,QR hc⟩
 ·cases h
theorem OB {w:af} (h:(bP w).2=false):bP w=(v0,false):=by
 unfold bP at h ⊢
 split at h
 ·cases h
 ·rename_i hc
  rw[S4 hc]
end Go.Proofs.YtfffplonjaigkaaGreatDoor.Abs
