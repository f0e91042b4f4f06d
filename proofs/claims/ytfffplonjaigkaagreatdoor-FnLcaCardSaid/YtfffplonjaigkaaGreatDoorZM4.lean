/- Values: products, texts, order. -/
import Derived.Test.YtfffplonjaigkaaGreatDoorZM3
set_option linter.unusedVariables false
set_option linter.unusedSimpArgs false
set_option linter.unusedSectionVars false
open Bool renaming and_eq_true→P8,and_true→bg_,eq_iff_iff→V3,false_eq_true→P9,not_true→S1,or_eq_true→Z6
open ByteArray renaming size→Q8,toList→P2
open Go.IntKind renaming i64→cj_,wrap→ci_
open Go.Lib renaming decDigits→R6
open Int renaming le_refl→W4,tmod→ap_,toNat_natCast→Z9,toNat_of_nonneg→X1
open List renaming all_append→ac_,all_cons→X5,all_eq_true→W6,append_nil→T8,cons_append→Z7,drop_succ_cons→U1,drop_zero→W3,getD_eq_getElem?_getD→S7,getElem?_eq_getElem→Q7,getElem?_eq_some_iff→Q9,head?_cons→W9,isPrefixOf_iff_prefix→Y8,length_append→P6,length_cons→Q1,length_drop→al_,length_nil→S4,length_reverse→ca_,length_singleton→P3,length→Q2,mem_cons→R4,mem_of_getElem?→T2,takeWhile_append_dropWhile→ba_,take_left'→cc_
open List.cons renaming inj→be_
open Nat renaming le_refl→Q6,le_trans→T5,lt_of_lt_of_le→U7,zero_le→Y6
open Option renaming bind_eq_some_iff→P7,bind_some→P1,getD_some→W2,map_some→Z4
open Option.some renaming injEq→R8,inj→U9
open Prod.mk renaming injEq→bd_
open _root_ renaming ByteArray→P0,absurd→S0,beq_iff_eq→T7,decide_eq_false→S3,decide_eq_true_eq→Q0,decide_eq_true→R5,decide_false→V5,if_false→R0,if_neg→P4,if_pos→P5,if_true→S2
namespace Go.Proofs.YtfffplonjaigkaaGreatDoor.Abs
open Go
section
variable {a b:aD} (ha:a.2.2.1.size≤9223372036854775807) (hb:b.2.2.1.size≤9223372036854775807)
include ha hb
end
theorem O9 {n:Int} (h0:0≤n) (h1:n≤255):IntKind.u8.wrap n=n:=by
 simp only[IntKind.wrap,IntKind.bits,IntKind.signed]
 simp
 omega
theorem zE : ∀(k u:Nat),u < 10 ^ (k+1)→(R6 u).length≤k+1
 | 0,u,h=>by
  have h:u < 10:=by simpa using h
  rw[R6,dif_pos h]
  simp
 | k+1,u,h=>by
  rw[R6]
  split
  ·simp
  ·have:=zE k (u / 10) (by rw[Nat.pow_succ] at h; exact Nat.div_lt_of_lt_mul (by omega))
   rw[P6]
   simp only[P3]
   omega
theorem n3 {x:Nat} (h:x < 10):strOfNums ([IntKind.u8.wrap (ci_ cj_ (48+(x:Int)))]:List Int)=⟨#[UInt8.ofNat (48+x)]⟩:=by
 rw[wr (by omega) (by omega),O9 (by omega) (by omega)]
 unfold strOfNums
 simp only[List.map_cons,List.map_nil]
 congr 3
theorem rS {a b:P0} (h:a.data.toList=b.data.toList):a=b:=by
 cases a; cases b
 congr 1
 exact Array.toList_inj.1 h
theorem vo : ∀(n u:Nat) (acc:P0),u≤n→u≤9223372036854775807→acc.size+n≤9223372036854775806→mQ (u:Int) acc=some ((⟨(R6 u).toArray⟩++acc,()),()):=by
 intro n
 induction n with
 | zero =>
  intro u acc h1 h2 h3
  have:u=0:=by omega
  subst this
  rw[pi,aq (by decide),show((0:Nat):Int)=((0:Nat):Int) from rfl,n3 (x:=0) (by decide),kC (by simp only[Q8]; simp; have:acc.data.size=acc.size:=rfl; omega)]
  rw[R6,dif_pos (by decide)]
 | succ n ih =>
  intro u acc h1 h2 h3
  rw[pi]
  have hs : ∀ c:UInt8,(⟨#[c]⟩:P0).size=1:=fun _=>rfl
  by_cases h:u < 10
  ·rw[aq (by omega),n3 h,kC (by rw[hs]; omega)]
   rw[R6,dif_pos h]
  ·have e1:ap_ (u:Int) 10=((u % 10:Nat):Int):=by
    rw[Int.tmod_eq_emod_of_nonneg (by omega)]
    omega
   have e2:Int.tdiv (u:Int) 10=((u / 10:Nat):Int):=by
    rw[Int.tdiv_eq_ediv_of_nonneg (by omega)]
    omega
   rw[ay (by omega),e1,e2,n3 (Nat.mod_lt _ (by decide)),kC (by rw[hs]; omega),wr (by omega) (by omega),ih (u / 10) _ (by omega) (by omega) (by rw[size_append,hs]; omega)]
   conv=>rhs; rw[R6,dif_neg h]
   congr 3
   apply rS
   simp
theorem qd (u:Nat):fm (u:Int)=⟨(R6 u).toArray⟩:=by
 unfold fm Lib.itoa
 rw[P4 (by omega)]
 simp
theorem vp {n:Int} (h:n < 0):fm n=⟨#[45]⟩++fm (-n):=by
 unfold fm Lib.itoa
 rw[P5 h,P4 (by omega)]
 apply rS
 simp
 congr 1
 omega
theorem AQ {u:Nat} (h:u≤9223372036854775807):(⟨(R6 u).toArray⟩:P0).size≤19:=by
 have:=zE 18 u (by omega)
 simpa[Q8] using this
theorem tk {n:Int} (h0 : -9223372036854775807≤n) (h1:n≤9223372036854775807):(fm n).size≤20:=by
 by_cases h:n < 0
 ·rw[vp h,size_append,show -n=((-n).toNat:Int) by omega,qd]
  have:=AQ (u:=(-n).toNat) (by omega)
  have h1:(⟨#[45]⟩:P0).size=1:=rfl
  omega
 ·rw[show n=(n.toNat:Int) by omega,qd]
  have:=AQ (u:=n.toNat) (by omega)
  omega
theorem zF {u:Nat} (h:u≤9223372036854775807):jx (u:Int)=some ((fm (u:Int),()),()):=by
 have h19:=AQ h
 rw[BN,aq (by omega),qd]
 have h2 : ∀ acc:P0,acc.size=0→mQ (u:Int) acc=some ((⟨(R6 u).toArray⟩++acc,()),()):=by
  intro acc ha
  by_cases hu:u≤9223372036854775806
  ·exact vo u u acc (Q6 _) h (by omega)
  ·have hu:u=9223372036854775807:=by omega
   subst hu
   have hs : ∀ c:UInt8,(⟨#[c]⟩:P0).size=1:=fun _=>rfl
   have e1:ap_ ((9223372036854775807:Nat):Int) 10=((7:Nat):Int):=by decide
   have e2:Int.tdiv ((9223372036854775807:Nat):Int) 10=((922337203685477580:Nat):Int):=by decide
   rw[pi,ay (by decide),e1,e2,n3 (by decide),kC (by rw[hs]; omega),wr (by omega) (by omega),vo 922337203685477580 _ _ (by omega) (by omega) (by rw[size_append,hs]; omega)]
   conv=>rhs; rw[R6,dif_neg (by decide)]
   congr 3
   apply rS
   simp
 rw[h2 _ rfl]
 congr 3
 apply rS
 simp
theorem BP {n:Int} (h0 : -9223372036854775807≤n) (h1:n≤9223372036854775807):jx n=some ((fm n,()),()):=by
 by_cases h:n < 0
 ·have hz:=tk (n := -n) (by omega) (by omega)
  have h45:(⟨#[45]⟩:P0).size=1:=rfl
  rw[BN,ay h,wr (by omega) (by omega),show(0 - n:Int)=((-n).toNat:Int) by omega,zF (by omega),show(((-n).toNat:Nat):Int) = -n by omega]
  simp only[P1]
  rw[kC (by omega),←vp h]
 ·rw[show n=(n.toNat:Int) by omega]
  exact zF (by omega)
theorem qH {n:Int} (h0 : -9223372036854775808≤n) (h1:n≤9223372036854775807):gG n=some ((fm n,()),()):=by
 rw[F0,tg]
 show(if(10:Int)=10∧_∧_ then _ else _:Option _).bind _=_
 rw[P5 ⟨rfl,h0,h1⟩]
 rfl
def NT:List P0:=[(⟨#[]⟩:P0),(⟨#[35,68,73,86,33]⟩:P0),(⟨#[35,84,89,80,69,33]⟩:P0),(⟨#[35,82,69,70,33]⟩:P0),(⟨#[35,79,86,69,82,33]⟩:P0),(⟨#[35,67,89,67,76,69,33]⟩:P0)]
def cQ (n:Int):P0:=NT.getD n.toNat eS
theorem tl {n:Int} (h0:0≤n) (h1:n≤5):rs n=some ((cQ n,()),()):=by
 rw[HW,iE h0 (by show n < 6; omega)]
 rfl
theorem nj {n:Int} (h0:0≤n) (h1:n≤5):lm n=some ((cQ n,()),()):=by
 rw[CE,iE h0 (by show n < 6; omega)]
 rfl
def zG (n:Int):P0:=if n=1 then⟨#[84,82,85,69]⟩ else⟨#[70,65,76,83,69]⟩
theorem Ik (n:Int):AB n=some ((zG n,()),()):=by
 rw[H0]
 unfold zG
 by_cases h:n=1 <;> simp[h]
def dh (v:aD):P0:=if v.1=1 then fm v.2.1 else if v.1=2 then(⟨#[39]⟩:P0)++v.2.2.1 else if v.1=3 then zG v.2.1 else if v.1=4 then cQ v.2.1 else eS
theorem wn {v:aD} (h:bb v=true) (k:v.1=1) : -1000000000000000≤v.2.1∧v.2.1≤1000000000000000:=by
 unfold bb at h
 rw[P4 (by omega),P4 (by omega),P5 k] at h
 simp only[P8,Q0] at h
 exact bK.1 h.2
theorem GI {v:aD} (h:bb v=true) (k:v.1=3):0≤v.2.1∧v.2.1≤1:=by
 unfold bb at h
 rw[P4 (by omega),P4 (by omega),P4 (by omega),P5 k] at h
 simp only[P8,Q0] at h
 exact bK.1 h.2
theorem wo {v:aD} (h:bb v=true) (k:v.1=4):1≤v.2.1∧v.2.1≤5:=by
 unfold bb at h
 rw[P4 (by omega),P4 (by omega),P4 (by omega),P4 (by omega),P5 k] at h
 simp only[P8,Q0] at h
 exact bK.1 h.2
theorem Il {v:aD} (h:bb v=true):v.1=0∨v.1=1∨v.1=2∨v.1=3∨v.1=4:=by
 unfold bb at h
 split at h
 ·omega
 ·simp only[P8] at h
  have h:=h.2
  split at h
  ·omega
  ·split at h
   ·omega
   ·split at h
    ·omega
    ·split at h
     ·omega
     ·cases h
theorem J6 (n:Int):(cQ n).size≤10:=by
 have h : ∀ i:Nat,i < 6→(NT.getD i eS).size≤10:=by decide
 unfold cQ
 by_cases hn:n.toNat < 6
 ·exact h _ hn
 ·rw[S7,List.getElem?_eq_none (by show 6≤n.toNat; omega)]
  decide
theorem J7 {v:aD} (h:bb v=true):(dh v).size≤201:=by
 have hs:=fN h
 unfold dh
 split
 ·have:=wn h ‹_›
  exact T5 (tk (by omega) (by omega)) (by decide)
 ·split
  ·rw[size_append]
   have:(⟨#[39]⟩:P0).size=1:=rfl
   omega
  ·split
   ·unfold zG
    split <;> decide
   ·split
    ·exact T5 (J6 _) (by decide)
    ·decide
theorem Im {β:Type} {s:P0} {f:P0→Option β} (h:s.size≤9223372036854775806):cats (⟨#[39]⟩:P0) s f=f ((⟨#[39]⟩:P0)++s):=kC (by
 have:(⟨#[39]⟩:P0).size=1:=rfl
 omega)
theorem jR {v:aD} (hs:v.2.2.1.size≤9223372036854775807):fH v=some ((if bb v=true then dh v else eS,()),()):=by
 rw[Cv,jE hs,P1]
 unfold dh
 cases h:bb v
 ·rfl
 ·have hz:=fN h
  simp only[S1,P9,R0,S2,T7]
  by_cases h1:v.1=1
  ·have:=wn h h1
   simp[h1,BP (n:=v.2.1) (by omega) (by omega)]
  by_cases h2:v.1=2
  ·simp only[h2,S2,Im (s:=v.2.2.1) (by omega)]
   rfl
  by_cases h3:v.1=3
  ·simp[h3,Ik]
  by_cases h4:v.1=4
  ·have:=wo h h4
   simp[h4,tl (n:=v.2.1) (by omega) (by omega)]
  simp[h1,h2,h3,h4]
theorem t6 {v:aD} (h:bb v=true):dU v=some ((dh v,()),()):=by
 rw[CF]
 unfold dh
 have hz:=fN h
 simp only[T7]
 by_cases h1:v.1=1
 ·have:=wn h h1
  simp[h1,qH (n:=v.2.1) (by omega) (by omega)]
 by_cases h2:v.1=2
 ·simp only[h2,S2,Im (s:=v.2.2.1) (by omega)]
  rfl
 by_cases h3:v.1=3
 ·have:=GI h h3
  simp only[h3,S2]
  rw[P4 (by decide),P4 (by decide),P4 (by decide),P4 (by decide),iE (by omega) (by show v.2.1 < 2; omega)]
  unfold zG
  by_cases h5:v.2.1=1
  ·rw[h5]
   rfl
  ·rw[show v.2.1=0 by omega]
   rfl
 by_cases h4:v.1=4
 ·have:=wo h h4
  simp[h4,nj (n:=v.2.1) (by omega) (by omega)]
 simp[h1,h2,h3,h4]
section
variable {a b:aD} (ha:a.2.2.1.size≤9223372036854775807) (hb:b.2.2.1.size≤9223372036854775807)
include ha hb
end
def xM (x y:Int):Int:=if x < y then -1 else if y < x then 1 else 0
theorem BQ (x y:Int):f6 x y=some ((xM x y,()),()):=by
 rw[tc,mR,mR]
 unfold xM
 simp
 by_cases h:x < y
 ·simp[h]
 ·by_cases h2:y < x <;> simp[h,h2]
theorem Ec {l:List Int} (hl:l.length≤100) : ∀(ys pre:List Int),l=pre++ys→jP 0 l (l.length:Int) (pre.length:Int)=some (((ys.find? fun y=>decide (y≠0)).getD 0,()),())
 | [],pre,he=>by
  rw[po,aq (bV he)]
  rfl
 | y :: ys,pre,he=>by
  rw[po,ay (bo he),bk he,aH he (by omega),Ec hl ys _ (aI he)]
  by_cases h:y=0
  ·simp[h]
  ·simp[h]
theorem LI {l:List Int} (hl:l.length≤100):s4 l=some (((l.find? fun y=>decide (y≠0)).getD 0,()),()):=by
 rw[CD]
 exact Ec hl l [] rfl
section
variable {op:Int} {a b:aD} (ha:a.2.2.1.size≤9223372036854775807) (hb:b.2.2.1.size≤9223372036854775807)
include ha hb
end
abbrev p0:b8:=((0,0,()),false,false,())
abbrev ab.kids (x:ab):List Int:=x.2.2.2.2.2.1
def py (op k:Int):Bool:=if op=5 then(decide (k=2) || decide (k=3)) else if ce op 1 7=true then ce k 1 10 else if ce op 8 10=true then decide (k=1) else false
def kl (x:ab):Int:=(Q2 x.2.2.2.2.2.1:Int)
def dM (x:ab):Bool :=
 if x.1=1 then decide (x.2.1=0) && decide (x.2.2.2.1=p0) && decide (x.2.2.2.2.1=p0) && decide (kl x=0) && bb x.2.2.1 && !decide (x.2.2.1.1=0) && (!decide (x.2.2.1.1=1) || decide (0≤x.2.2.1.2.1))
 else if x.1=2 then decide (x.2.1=0) && decide (x.2.2.1=v0) && decide (x.2.2.2.2.1=p0) && decide (kl x=0) && bQ x.2.2.2.1.1
 else if x.1=3 then decide (x.2.1=0) && decide (x.2.2.1=v0) && decide (kl x=0) && lx (x.2.2.2.1.1,x.2.2.2.2.1.1,())
 else if x.1=4 then decide (x.2.1=0) && decide (x.2.2.1=v0) && decide (x.2.2.2.1=p0) && decide (x.2.2.2.2.1=p0) && decide (kl x=1)
 else if x.1=5 then ce x.2.1 1 11 && decide (x.2.2.1=v0) && decide (x.2.2.2.1=p0) && decide (x.2.2.2.2.1=p0) && decide (kl x=2)
 else if x.1=6 then py x.2.1 (kl x) && decide (x.2.2.1=v0) && decide (x.2.2.2.1=p0) && decide (x.2.2.2.2.1=p0)
 else false
theorem LJ {a b:b8}:(bO bq a b=true)=(a=b):=propext (od rfl)
theorem LK {a b:aD}:(bO bj a b=true)=(a=b):=propext (od rfl)
theorem Mo (a b:b8):bO bq a b=decide (a=b):=by
 rw[V3,Q0,LJ]
theorem Mp (a b:aD):bO bj a b=decide (a=b):=by
 rw[V3,Q0,LK]
theorem Io (op k:Int):AA op k=some ((py op k,()),()):=by
 rw[HV]
 unfold py ce
 simp only[T7,Q0,ge_iff_le,Ih]
 by_cases h:op=1∨op=2∨op=3∨op=4∨op=5∨op=6∨op=7∨op=8∨op=9∨op=10
 ·by_cases hk:1≤k <;> by_cases hk2:k=2 <;> rcases h with rfl | rfl | rfl | rfl | rfl | rfl | rfl | rfl | rfl | rfl <;> simp[hk,hk2] <;> omega
 ·have h1:op≠1:=by omega
  have h2:op≠2:=by omega
  have h3:op≠3:=by omega
  have h4:op≠4:=by omega
  have h5:op≠5:=by omega
  have h6:op≠6:=by omega
  have h7:op≠7:=by omega
  have h8:op≠8:=by omega
  have h9:op≠9:=by omega
  have h10:op≠10:=by omega
  have h11 : ¬(1≤op∧op≤7):=by omega
  have h12 : ¬(8≤op∧op≤10):=by omega
  simp only[h1,h2,h3,h4,h5,h6,h7,h8,h9,h10,h11,h12,R0]
theorem vq {x:ab} (h:x.2.2.1.2.2.1.size≤9223372036854775807):pX x=some ((dM x,()),()):=by
 rw[DW]
 unfold dM kl
 simp only[jE h,kE,Ii,iG,Io,P1,T7,bne_iff_ne,ne_eq,LJ,LK,Mo,Mp,Ih,v0,ge_iff_le]
 generalize (Q2 x.2.2.2.2.2.1:Int)=k
 by_cases h1:x.1=1
 ·by_cases a1:x.2.1=0 <;> by_cases a2:x.2.2.2.1=p0 <;> by_cases a3:x.2.2.2.2.1=p0 <;> by_cases a4:k=0 <;> cases ov:bb x.2.2.1 <;> by_cases a5:x.2.2.1.1=0 <;> by_cases a6:x.2.2.1.1=1 <;> simp[a1,a2,a3,a4,a5,a6,h1,ov]
 by_cases h2:x.1=2
 ·by_cases a1:x.2.1=0 <;> by_cases a2:x.2.2.1=(0,0,eS,()) <;> by_cases a3:x.2.2.2.2.1=p0 <;> by_cases a4:k=0 <;> simp[a1,a2,a3,a4,h2]
 by_cases h3:x.1=3
 ·by_cases a1:x.2.1=0 <;> by_cases a2:x.2.2.1=(0,0,eS,()) <;> by_cases a4:k=0 <;> simp[a1,a2,a4,h3]
 by_cases h4:x.1=4
 ·by_cases a1:x.2.1=0 <;> by_cases a2:x.2.2.1=(0,0,eS,()) <;> by_cases a3:x.2.2.2.1=p0 <;> by_cases a4:x.2.2.2.2.1=p0 <;> simp[a1,a2,a3,a4,h4]
 by_cases h5:x.1=5
 ·cases hi:ce x.2.1 1 11 <;> by_cases a2:x.2.2.1=(0,0,eS,()) <;> by_cases a3:x.2.2.2.1=p0 <;> by_cases a4:x.2.2.2.2.1=p0 <;> simp[a2,a3,a4,h5,hi]
 by_cases h6:x.1=6
 ·cases hi:py x.2.1 k <;> by_cases a2:x.2.2.1=(0,0,eS,()) <;> by_cases a3:x.2.2.2.1=p0 <;> simp[a2,a3,h6,hi]
 simp[h1,h2,h3,h4,h5,h6]
theorem zH {x:ab} (h:x.2.2.1.2.2.1.size≤9223372036854775807):o3 x=some ((dM x,()),()):=by
 have c1 : ∀ a:b8,(p0=a)=(a=p0):=fun a=>propext eq_comm
 have c2 : ∀ a:aD,((0,0,eS,())=a)=(a=(0,0,eS,())):=fun a=>propext eq_comm
 rw[zw,vj,xJ]
 unfold dM kl py
 simp only[qG h,AM,Ij,dY,P1,T7,bne_iff_ne,ne_eq,LJ,LK,Mo,Mp,Ih,v0,ge_iff_le,c1,c2]
 generalize (Q2 x.2.2.2.2.2.1:Int)=k
 by_cases h1:x.1=1
 ·simp only[h1,S2]
  by_cases a1:x.2.1=0 <;> by_cases a2:x.2.2.2.1=p0 <;> by_cases a3:x.2.2.2.2.1=p0 <;> by_cases a4:k=0 <;> cases bb x.2.2.1 <;> by_cases a5:x.2.2.1.1=0 <;> by_cases a6:x.2.2.1.1=1 <;> by_cases a7:x.2.2.1.2.1 < 0 <;> have a8:(0≤x.2.2.1.2.1) = ¬x.2.2.1.2.1 < 0:=propext (by omega) <;> simp[a1,a2,a3,a4,a5,a6,a7,a8]
 by_cases h2:x.1=2
 ·have e:lx (x.2.2.2.1.1,x.2.2.2.1.1,())=bQ x.2.2.2.1.1:=by
   unfold lx
   simp
  by_cases a1:x.2.1=0 <;> by_cases a2:x.2.2.1=(0,0,eS,()) <;> by_cases a3:x.2.2.2.2.1=p0 <;> by_cases a4:k=0 <;> cases hr:bQ x.2.2.2.1.1 <;> simp[a1,a2,a3,a4,h2,e,hr]
 by_cases h3:x.1=3
 ·by_cases a1:x.2.1=0 <;> by_cases a2:x.2.2.1=(0,0,eS,()) <;> by_cases a4:k=0 <;> cases hr:lx (x.2.2.2.1.1,x.2.2.2.2.1.1,()) <;> simp[a1,a2,a4,h3,hr]
 by_cases h4:x.1=4
 ·by_cases a1:x.2.1=0 <;> by_cases a2:x.2.2.1=(0,0,eS,()) <;> by_cases a3:x.2.2.2.1=p0 <;> by_cases a4:x.2.2.2.2.1=p0 <;> by_cases a5:k=1 <;> simp[a1,a2,a3,a4,a5,h4]
 by_cases h5:x.1=5
 ·cases hi:ce x.2.1 1 11 <;> by_cases a2:x.2.2.1=(0,0,eS,()) <;> by_cases a3:x.2.2.2.1=p0 <;> by_cases a4:x.2.2.2.2.1=p0 <;> by_cases a5:k=2 <;> simp[a2,a3,a4,a5,h5,hi]
 by_cases h6:x.1=6
 ·by_cases a2:x.2.2.1=(0,0,eS,()) <;> by_cases a3:x.2.2.2.1=p0 <;> by_cases a4:x.2.2.2.2.1=p0 <;> simp only[a2,a3,a4,h6,S2,R0,decide_true,V5,Bool.and_false,bg_]
  all_goals
   generalize x.2.1=op
   unfold ce
   by_cases b1:1≤op∧op≤10
   ·by_cases b2:op=5
    ·subst b2
     by_cases b3:2≤k∧k≤3
     ·have:k=2∨k=3:=by omega
      rcases this with rfl | rfl <;> simp
     ·have : ¬k=2:=by omega
      have : ¬k=3:=by omega
      simp[b3, *]
    ·by_cases b3:8≤op
     ·have b4 : ¬(op≤7):=by omega
      have b5:op≤10:=by omega
      by_cases b6:k=1 <;> simp[b1,b2,b3,b4,b5,b6]
     ·have b4:op≤7:=by omega
      by_cases b6:1≤k∧k≤10 <;> simp[b1,b2,b3,b4,b6]
   ·have b2 : ¬op=5:=by omega
    have b3 : ¬(1≤op∧op≤7):=by omega
    have b4 : ¬(8≤op∧op≤10):=by omega
    simp[b1,b2,b3,b4]
 simp[h1,h2,h3,h4,h5,h6]
def jo (f:List ab) (i:Int):Bool:=decide ((f.getD i.toNat ah.dflt).1=3)
def Ed (f:List ab) (k:Int):ab:=f.getD k.toNat ah.dflt
def dZ (c:Int→Option (Int×Nat)) (f:List ab) (call:Bool):List Int→Int→Nat→Option (Int×Nat)
 | [],cur,h=>some (cur,h+1)
 | kid :: l,cur,h=>if kid=cur - 1∧0≤kid∧(jo f kid=true→call=true) then(c kid).bind fun p=>dZ c f call l p.1 (max h p.2) else none
def dN (f:List ab):Nat→Int→Option (Int×Nat)
 | 0,_=>none
 | n+1,k=>if 0≤k then match f[k.toNat]? with
  | none=>none
  | some x=>if dM x=true then dZ (dN f n) f (decide (x.1=6)) x.2.2.2.2.2.1.reverse k 0 else none
  else none
def ly (f:List ab) (i:Nat) (x:ab):Prop:=dM x=true ∧ ∀ k∈x.2.2.2.2.2.1,0≤k∧k < i∧(jo f k=true→x.1=6)
theorem mW {c:Int→Option (Int×Nat)} {f:List ab} {call:Bool} (hc : ∀ k s h,c k=some (s,h)→0≤s∧s≤k ∧ ∀ i:Nat,s≤i→(i:Int)≤k → ∃ x,f[i]? = some x∧ly f i x) :
  ∀(l:List Int) (cur:Int) (h:Nat) (s:Int) (h':Nat),0≤cur→dZ c f call l cur h=some (s,h')→0≤s∧s≤cur∧h+1≤h'∧(∀ i:Nat,s≤i→(i:Int) < cur → ∃ x,f[i]? = some x∧ly f i x) ∧ ∀ k∈l,0≤k∧k < cur∧(jo f k=true→call=true)
 | [],cur,h,s,h',h0,e=>by
  simp only[dZ,R8,bd_] at e
  obtain⟨rfl,rfl⟩:=e
  exact⟨h0,W4 _,Q6 _,fun i h1 h2=>by omega,fun k hk=>by cases hk⟩
 | kid :: l,cur,h,s,h',h0,e=>by
  simp only[dZ] at e
  split at e
  ·rename_i hk
   rw[P7] at e
   obtain⟨⟨t,ht⟩,e1,e2⟩:=e
   obtain⟨a1,a2,a3⟩:=hc _ _ _ e1
   obtain⟨b1,b2,b3,b4,b5⟩:=mW hc l t (max h ht) s h' a1 e2
   refine⟨b1,by omega,by omega,fun i h1 h2 => ?_,fun k hm => ?_⟩
   ·by_cases hi:(i:Int) < t
    ·exact b4 i h1 hi
    ·exact a3 i (by omega) (by omega)
   ·rcases R4.1 hm with rfl | hm
    ·exact⟨hk.2.1,by omega,hk.2.2⟩
    ·have:=b5 k hm
     exact⟨this.1,by omega,this.2.2⟩
  ·cases e
theorem fA (f:List ab) : ∀(n:Nat) (k s:Int) (h:Nat),dN f n k=some (s,h)→0≤s∧s≤k ∧ ∀ i:Nat,s≤i→(i:Int)≤k → ∃ x,f[i]? = some x∧ly f i x
 | 0,_,_,_,e=>by cases e
 | n+1,k,s,h,e=>by
  simp only[dN] at e
  split at e
  ·rename_i h0
   split at e
   ·cases e
   ·rename_i x hx
    split at e
    ·rename_i ho
     obtain⟨b1,b2,b3,b4,b5⟩:=mW (fA f n) _ _ _ _ _ h0 e
     refine⟨b1,b2,fun i h1 h2 => ?_⟩
     by_cases hi:(i:Int) < k
     ·exact b4 i h1 hi
     ·have hik:i=k.toNat:=by omega
      refine⟨x,by rw[hik,hx],ho,fun k' hk' => ?_⟩
      have:=b5 k' (by simpa using hk')
      exact⟨this.1,by omega,fun ha=>by simpa using this.2.2 ha⟩
    ·cases e
  ·cases e
theorem MN {f:List ab} {n:Nat} {k s:Int} {h:Nat} (e:dN f n k=some (s,h)):1≤h:=by
 cases n with
 | zero=>cases e
 | succ n =>
  simp only[dN] at e
  split at e
  ·rename_i h0
   split at e
   ·cases e
   ·split at e
    ·exact T5 (by omega) (mW (fA f n) _ _ _ _ _ h0 e).2.2.1
    ·cases e
  ·cases e
def jS (deep:Int):Option (Int×Nat)→Int
 | some (s,h)=>if deep+h≤12 then s else -1
 | none => -1
theorem nH {n:Int} (h0 : -1000000000≤n) (h1:n≤1000000000):IntKind.i64.wrap n=n:=wr (by omega) (by omega)
section
variable {f:List ab} (hl:f.length≤10000000) (hs : ∀ x∈f,x.2.2.1.2.2.1.size≤9223372036854775807)
include hl hs
theorem zI {n:Nat} (ih : ∀(k deep:Int),0≤k→k < n→k < f.length→0≤deep→deep≤12→s5 f k deep=some ((jS deep (dN f n k),()),())) {x:ab} {k:Int} (h0:0≤k) (hk:f[k.toNat]? = some x) (hkn:k≤n) (hkl:x.2.2.2.2.2.1.length≤10000000) :
  ∀(r suf:List Int) (cur:Int) (h:Nat) (deep:Int),x.2.2.2.2.2.1=r.reverse++suf→0≤cur→cur≤k→0≤deep→deep+h+1≤12→l6 f k deep cur ((r.length:Int) - 1)=some ((jS deep (dZ (dN f n) f (decide (x.1=6)) r cur h),()),())
 | [],suf,cur,h,deep,he,c0,c1,d0,d1=>by
  rw[w8,aq (by simp)]
  simp only[dZ,jS]
  rw[P5 (by omega)]
 | kid :: r,suf,cur,h,deep,he,c0,c1,d0,d1=>by
  have hkl2:k < (f.length:Int):=by
   have:=(Q9.1 hk).1
   omega
  have he':x.2.2.2.2.2.1=r.reverse++kid :: suf:=by rw[he]; simp
  have hlen:(((kid :: r).length:Int) - 1)=((r.reverse).length:Int):=by simp
  rw[w8,ay (by rw[hlen]; exact nn _),cX h0 hk,hlen,bk he',nH (n:=cur - 1) (by omega) (by omega)]
  simp only[dZ]
  by_cases e1:kid=cur - 1
  ·rw[P4 (by simp[e1])]
   by_cases e2:kid < 0
   ·rw[ay e2,P4 (by omega)]
    rfl
   ·rw[aq e2]
    have hkd:kid < (f.length:Int):=by omega
    obtain⟨y,hy⟩ : ∃ y,f[kid.toNat]? = some y:=⟨f[kid.toNat]'(by omega),Q7 _⟩
    rw[cX (by omega) hy]
    have har:jo f kid=decide (y.1=3):=by
     unfold jo
     rw[S7,hy]
     rfl
    have go:((s5 f kid (ci_ cj_ (deep+1))).bind fun z1=>if decide (z1.1.1 < 0)=true then some ((-1,()),()) else l6 f k deep z1.1.1 (ci_ cj_ (((r.reverse).length:Int) - 1)))=some ((jS deep ((dN f n kid).bind fun p=>dZ (dN f n) f (decide (x.1=6)) r p.1 (max h p.2)),()),()):=by
     have hlr:(r.reverse).length≤10000000:=by
      rw[he',P6] at hkl
      omega
     rw[nH (by omega) (by omega),nH (by omega) (by omega),ih kid (deep+1) (by omega) (by omega) hkd (by omega) (by omega),P1]
     cases hc:dN f n kid with
     | none=>rfl
     | some p =>
      obtain⟨t,ht⟩:=p
      have ha:=fA f n _ _ _ hc
      by_cases hd:deep+1+ht≤12
      ·have er:jS (deep+1) (some (t,ht))=t:=P5 hd
       simp only[er,P1]
       rw[aq (by omega),ca_,zI ih h0 hk hkn hkl r (kid :: suf) t (max h ht) deep he' (by omega) (by omega) d0 (by omega)]
      ·have er:jS (deep+1) (some (t,ht)) = -1:=P4 hd
       simp only[er,P1]
       rw[ay (by decide)]
       cases hq:dZ (dN f n) f (decide (x.1=6)) r t (max h ht) with
       | none=>rfl
       | some q =>
        obtain⟨s',h'⟩:=q
        have:=(mW (fA f n) _ _ _ _ _ (by omega) hq).2.2.1
        simp only[jS]
        rw[P4 (by omega)]
    by_cases e3:y.1=3
    ·rw[P5 (by simp[e3]),cX h0 hk]
     by_cases e4:x.1=6
     ·rw[P4 (by simp[e4]),P5 ⟨e1,by omega,fun _=>by simp[e4]⟩]
      exact go
     ·rw[P5 (by simp[e4]),P4 (by rw[har]; simp[e3,e4])]
      rfl
    ·rw[P4 (by simp[e3]),P5 ⟨e1,by omega,fun h=>by rw[har] at h; simp[e3] at h⟩]
     exact go
  ·rw[P5 (by simpa using e1),P4 (fun h=>e1 h.1)]
   rfl
theorem Ee : ∀(n:Nat) (k deep:Int),0≤k→k < n→k < f.length→0≤deep→deep≤12→(∀ x∈f,x.2.2.2.2.2.1.length≤10000000)→s5 f k deep=some ((jS deep (dN f n k),()),())
 | 0,k,deep,h0,h1,_,_,_,_=>by omega
 | n+1,k,deep,h0,h1,h2,d0,d1,hkl=>by
  obtain⟨x,hx⟩ : ∃ y,f[k.toNat]? = some y:=⟨f[k.toNat]'(by omega),Q7 _⟩
  have hm:x∈f:=T2 hx
  rw[LH,aq (by omega)]
  by_cases hd:deep≥12
  ·rw[ay hd]
   cases hc:dN f (n+1) k with
   | none=>rfl
   | some p =>
    obtain⟨s,h⟩:=p
    have:=MN hc
    simp only[jS]
    rw[P4 (by omega)]
  ·have:=hkl x hm
   rw[aq hd,cX h0 hx,zH (hs x hm),P1,cX h0 hx,nH (by omega) (by omega)]
   simp only[dN,P5 h0,hx]
   cases ho:dM x with
   | false=>rfl
   | true =>
    simp only[S1,P9,R0,S2]
    have:=zI hl hs (n:=n) (fun k deep a b c d e=>Ee n k deep a b c d e hkl) h0 hx (by omega) this x.2.2.2.2.2.1.reverse [] k 0 deep (by simp) h0 (W4 _) d0 (by omega)
    rw[ca_] at this
    exact this
def AR:Option (Int×Nat)→Int
 | some (s,_)=>s
 | none => -1
theorem vt {n:Nat} (A : ∀(i:Nat) (x:ab),f[i]? = some x→ly f i x) (ih : ∀(k:Int),0≤k→k < n→k < f.length→ru f k=some ((AR (dN f n k),()),())) {x:ab} {k:Int} (h0:0≤k) (hk:f[k.toNat]? = some x) (hkn:k≤n) (hkl:x.2.2.2.2.2.1.length≤10000000) :
  ∀(r suf:List Int) (cur:Int) (h:Nat),x.2.2.2.2.2.1=r.reverse++suf→0≤cur→cur≤k→nU f k (cur - 1) ((r.length:Int) - 1)=some ((AR (dZ (dN f n) f (decide (x.1=6)) r cur h),()),())
 | [],suf,cur,h,he,c0,c1=>by
  have hkl2:k < (f.length:Int):=by
   have:=(Q9.1 hk).1
   omega
  rw[tR,aq (by simp),nH (by omega) (by omega)]
  simp only[dZ,AR]
  congr 3
  omega
 | kid :: r,suf,cur,h,he,c0,c1=>by
  have hkl2:k < (f.length:Int):=by
   have:=(Q9.1 hk).1
   omega
  have he':x.2.2.2.2.2.1=r.reverse++kid :: suf:=by rw[he]; simp
  have hlen:(((kid :: r).length:Int) - 1)=((r.reverse).length:Int):=by simp
  have hmem:kid∈x.2.2.2.2.2.1:=by rw[he']; simp
  have hst:=(A _ _ hk).2 kid hmem
  rw[tR,ay (by rw[hlen]; exact nn _)]
  simp only[dZ]
  by_cases e0:cur - 1 < 0
  ·rw[ay e0,P4 (by omega)]
   rfl
  ·rw[aq e0,cX h0 hk,hlen,bk he']
   by_cases e1:kid=cur - 1
   ·have hkd:kid < (f.length:Int):=by omega
    have hlr:(r.reverse).length≤10000000:=by
     rw[he',P6] at hkl
     omega
    rw[P4 (by simp[e1]),P5 ⟨e1,hst.1,fun ha=>by simpa using hst.2.2 ha⟩,←e1,ih kid hst.1 (by omega) hkd,P1,nH (n:=(r.reverse.length:Int) - 1) (by omega) (by omega)]
    cases hc:dN f n kid with
    | none=>rfl
    | some p =>
     obtain⟨t,ht⟩:=p
     have ha:=fA f n _ _ _ hc
     have er:AR (some (t,ht))=t:=rfl
     simp only[er,P1]
     rw[aq (by omega),nH (n:=t - 1) (by omega) (by omega),ca_,vt A ih h0 hk hkn hkl r (kid :: suf) t (max h ht) he' (by omega) (by omega)]
   ·rw[P5 (by simpa using e1),P4 (fun h=>e1 h.1)]
    rfl
theorem zJ (A : ∀(i:Nat) (x:ab),f[i]? = some x→ly f i x) (hkl : ∀ x∈f,x.2.2.2.2.2.1.length≤10000000) : ∀(n:Nat) (k:Int),0≤k→k < n→k < f.length→ru f k=some ((AR (dN f n k),()),())
 | 0,k,h0,h1,_=>by omega
 | n+1,k,h0,h1,h2=>by
  obtain⟨x,hx⟩ : ∃ y,f[k.toNat]? = some y:=⟨f[k.toNat]'(by omega),Q7 _⟩
  have hm:x∈f:=T2 hx
  have hk:=hkl x hm
  rw[HY,cX h0 hx,nH (n:=k - 1) (by omega) (by omega),nH (by omega) (by omega)]
  simp only[dN,P5 h0,hx,(A _ _ hx).1,S2]
  have:=vt hl hs (n:=n) A (zJ A hkl n) h0 hx (by omega) hk x.2.2.2.2.2.1.reverse [] k 0 (by simp) h0 (W4 _)
  rw[ca_] at this
  exact this
def jh (c:Int→Option (Int×Nat)):List Int→Nat
 | []=>0
 | k :: l=>max (((c k).map (·.2)).getD 0) (jh c l)
omit hl hs in
theorem xN (c:Int→Option (Int×Nat)) (k:Int) : ∀ l,jh c (l++[k])=max (jh c l) (((c k).map (·.2)).getD 0)
 | []=>by simp[jh]
 | y :: l=>by
  simp only[Z7,jh,xN c k l]
  omega
omit hl hs in
theorem GJ (c:Int→Option (Int×Nat)) : ∀ l,jh c l.reverse=jh c l
 | []=>rfl
 | y :: l=>by
  rw[List.reverse_cons,xN,GJ c l]
  simp only[jh]
  omega
omit hl hs in
theorem BR {c:Int→Option (Int×Nat)} {call:Bool} : ∀(l:List Int) (cur:Int) (h:Nat) (s:Int) (h':Nat),dZ c f call l cur h=some (s,h')→h'=max h (jh c l)+1 ∧ ∀ k∈l,∃ p,c k=some p
 | [],cur,h,s,h',e=>by
  simp only[dZ,R8,bd_] at e
  exact⟨by simp only[jh]; omega,fun k hk=>by cases hk⟩
 | kid :: l,cur,h,s,h',e=>by
  simp only[dZ] at e
  split at e
  ·rw[P7] at e
   obtain⟨⟨t,ht⟩,e1,e2⟩:=e
   obtain⟨b1,b2⟩:=BR l t (max h ht) s h' e2
   refine⟨?_,fun k hk => ?_⟩
   ·simp only[jh,e1,Z4,W2]
    omega
   ·rcases R4.1 hk with rfl | hk
    ·exact⟨_,e1⟩
    ·exact b2 k hk
  ·cases e
theorem vu {n:Nat} {c:Int→Option (Int×Nat)} (ih : ∀(k:Int) (s:Int) (h:Nat),k < n→c k=some (s,h)→rx f k=some (((h:Int),()),())) {x:ab} {k:Int} (h0:0≤k) (hk:f[k.toNat]? = some x) (hkn:k≤n) (hkl:x.2.2.2.2.2.1.length≤10000000) (hall : ∀ k'∈x.2.2.2.2.2.1,(∃ p,c k'=some p)∧k' < k) (hb:jh c x.2.2.2.2.2.1≤10000000) :
  ∀(ys pre:List Int),x.2.2.2.2.2.1=pre++ys→nV f k (jh c pre:Int) (pre.length:Int)=some ((((jh c x.2.2.2.2.2.1+1:Nat):Int),()),())
 | [],pre,he=>by
  have:pre=x.2.2.2.2.2.1:=by rw[he]; simp
  rw[tS,cX h0 hk,aq (bV he),this,nH (by omega) (by omega)]
  rfl
 | y :: ys,pre,he=>by
  obtain⟨⟨⟨s,h⟩,hc⟩,hlt⟩:=hall y (by rw[he]; simp)
  rw[tS,cX h0 hk,ay (bo he),cX h0 hk,bk he,ih y s h (by omega) hc,P1,aH he (by omega)]
  have:(if((jh c pre:Nat):Int) < (h:Int) then(h:Int) else((jh c pre:Nat):Int))=(jh c (pre++[y]):Int):=by
   rw[xN,hc]
   simp only[Z4,W2]
   split <;> omega
  rw[this]
  exact vu ih h0 hk hkn hkl hall hb ys _ (aI he)
theorem tm (hkl : ∀ x∈f,x.2.2.2.2.2.1.length≤10000000) : ∀(n:Nat) (k s:Int) (h:Nat),dN f n k=some (s,h)→n≤10000000→h≤n∧rx f k=some (((h:Int),()),())
 | 0,_,_,_,e,_=>by cases e
 | n+1,k,s,h,e,hn=>by
  have hall:=fA f _ _ _ _ e
  simp only[dN] at e
  split at e
  ·rename_i h0
   split at e
   ·cases e
   ·rename_i x hx
    split at e
    ·have hm:x∈f:=T2 hx
     obtain⟨b1,b2⟩:=BR _ _ _ _ _ e
     have hst:=mW (fA f n) _ _ _ _ _ h0 e
     have hhm:jh (dN f n) x.2.2.2.2.2.1≤n:=by
      have : ∀ l:List Int,jh (dN f n) l≤n:=by
       intro l
       induction l with
       | nil=>exact Y6 _
       | cons y l ih =>
        simp only[jh]
        cases hc:dN f n y with
        | none=>simpa using ih
        | some p =>
         have:=(tm hkl n y p.1 p.2 hc (by omega)).1
         simp only[Z4,W2]
         omega
      exact this _
     rw[GJ] at b1
     refine⟨by omega,?_⟩
     rw[HZ]
     have hk2 : ∀ k'∈x.2.2.2.2.2.1,(∃ p,dN f n k'=some p)∧k' < k:=fun k' hk'=>⟨b2 k' (by simpa using hk'),(hst.2.2.2.2 k' (by simpa using hk')).2.1⟩
     have:=vu hl hs (n:=k.toNat) (c:=dN f n) (fun k' s' h' _ hc=>(tm hkl n k' s' h' hc (by omega)).2) h0 hx (by omega) (hkl x hm) hk2 (by omega) x.2.2.2.2.2.1 [] rfl
     rw[b1]
     have hz:max 0 (jh (dN f n) x.2.2.2.2.2.1)=jh (dN f n) x.2.2.2.2.2.1:=by omega
     rw[hz]
     exact this
    ·cases e
  ·cases e
end
def rT (f:List ab):Bool:=match dN f f.length ((f.length:Int) - 1) with
 | some (s,h)=>decide (s=0) && (!jo f ((f.length:Int) - 1) && decide ((h:Int)≤12))
 | none=>false
def nI (f:List ab):Bool:=ce (f.length:Int) 1 60 && rT f
theorem tn {f:List ab} (h:nI f=true) (i:Nat) (x:ab) (hx:f[i]? = some x):ly f i x:=by
 unfold nI rT at h
 simp only[P8] at h
 obtain⟨h1,h2⟩:=h
 have h1:=bK.1 h1
 cases hc:dN f f.length ((f.length:Int) - 1) with
 | none=>rw[hc] at h2; cases h2
 | some p =>
  obtain⟨s,d⟩:=p
  rw[hc] at h2
  simp only[P8,Q0] at h2
  have hl:=(Q9.1 hx).1
  obtain⟨y,hy,hs⟩:=(fA f _ _ _ _ hc).2.2 i (by omega) (by omega)
  rw[hx] at hy
  rw[U9 hy]
  exact hs
section
variable {f:List ab} (hl:f.length≤10000000) (hs : ∀ x∈f,x.2.2.1.2.2.1.size≤9223372036854775807) (hkl : ∀ x∈f,x.2.2.2.2.2.1.length≤10000000)
include hl hs hkl
theorem nk:nT f=some ((nI f,()),()):=by
 rw[CJ]
 unfold nI
 simp only[dY,P1]
 cases hb:ce (f.length:Int) 1 60 with
 | false=>rfl
 | true =>
  have hb:=bK.1 hb
  obtain⟨x,hx⟩ : ∃ y,f[((f.length:Int) - 1).toNat]? = some y:=⟨f[((f.length:Int) - 1).toNat]'(by omega),Q7 _⟩
  have har:jo f ((f.length:Int) - 1)=decide (x.1=3):=by
   unfold jo
   rw[S7,hx]
   rfl
  have hfr:=Ee hl hs f.length ((f.length:Int) - 1) 0 (by omega) (by omega) (by omega) (by decide) (by decide) hkl
  simp only[S2]
  rw[nH (by omega) (by omega),cX (by omega) hx,hfr]
  unfold rT
  rw[har]
  cases hc:dN f f.length ((f.length:Int) - 1) with
  | none=>by_cases h3:x.1=3 <;> simp[h3,jS]
  | some p =>
   obtain⟨s,h⟩:=p
   have hp:=(fA f _ _ _ _ hc).1
   by_cases h3:x.1=3
   ·simp[h3]
   ·by_cases h4:(h:Int)≤12
    ·simp[h3,jS,h4,Ih]
    ·simp[h3,jS,h4]
theorem qe {x:ab} {i:Nat} (hi:f[i]? = some x) (hil:i≤10000000) : ∀(ys pre:List Int),x.2.2.2.2.2.1=pre++ys →
  gY f (i:Int) (pre.length:Int)=if(ys.all fun k=>ce k 0 ((i:Int) - 1) && (!jo f k || decide (x.1=6)))=true then dk f ((i+1:Nat):Int) else some ((false,()),())
 | [],pre,he=>by
  rw[pu,cX (nn _) (by simpa using hi),aq (bV he),nH (by omega) (by omega)]
  simp
 | y :: ys,pre,he=>by
  have hm:x∈f:=T2 hi
  have:=hkl x hm
  rw[pu,cX (nn _) (by simpa using hi),ay (bo he),cX (nn _) (by simpa using hi),bk he,iG,P1,nH (n:=(i:Int) - 1) (by omega) (by omega),aH he (by omega)]
  have ih:=qe hi hil ys _ (aI he)
  have hlt:=(Q9.1 hi).1
  cases hy:ce y 0 ((i:Int) - 1) with
  | false=>simp[hy]
  | true =>
   have hy2:=bK.1 hy
   obtain⟨z,hz⟩ : ∃ z,f[y.toNat]? = some z:=⟨f[y.toNat]'(by omega),Q7 _⟩
   have har:jo f y=decide (z.1=3):=by
    unfold jo
    rw[S7,hz]
    rfl
   simp only[S1,P9,R0]
   rw[cX (by omega) hz]
   by_cases h3:z.1=3
   ·rw[P5 (by simp[h3]),cX (nn _) (by simpa using hi)]
    by_cases h6:x.1=6
    ·rw[P4 (by simp[h6]),ih]
     simp[hy,har,h6]
    ·rw[P5 (by simp[h6])]
     simp[hy,har,h3,h6]
   ·rw[P4 (by simp[h3]),ih]
    simp[hy,har,h3]
def je (f:List ab) (i:Nat):Bool:=match f[i]? with
 | some x=>dM x && x.2.2.2.2.2.1.all fun k=>ce k 0 ((i:Int) - 1) && (!jo f k || decide (x.1=6))
 | none=>true
omit hl hs hkl in
theorem w9 {i:Nat} {x:ab} (hx:f[i]? = some x):je f i=true↔ly f i x:=by
 unfold je ly
 rw[hx]
 simp only[P8,W6,bK,Z6,Bool.not_eq_true',Q0]
 constructor
 ·rintro⟨h1,h2⟩
  refine⟨h1,fun k hk => ?_⟩
  obtain⟨⟨a,b⟩,c⟩:=h2 k hk
  refine⟨a,by omega,fun ha => ?_⟩
  rcases c with c | c
  ·rw[c] at ha
   cases ha
  ·exact c
 ·rintro⟨h1,h2⟩
  refine⟨h1,fun k hk => ?_⟩
  obtain⟨a,b,c⟩:=h2 k hk
  refine⟨⟨a,by omega⟩,?_⟩
  cases ha:jo f k with
  | true=>exact .inr (c ha)
  | false=>exact .inl rfl
theorem zK (hne:1≤f.length) (A : ∀(i:Nat) (x:ab),f[i]? = some x→ly f i x):dk f (f.length:Int)=some ((rT f,()),()):=by
 obtain⟨x,hx⟩ : ∃ y,f[((f.length:Int) - 1).toNat]? = some y:=⟨f[((f.length:Int) - 1).toNat]'(by omega),Q7 _⟩
 have har:jo f ((f.length:Int) - 1)=decide (x.1=3):=by
  unfold jo
  rw[S7,hx]
  rfl
 rw[ph,aq (Int.lt_irrefl _),nH (by omega) (by omega),zJ hl hs A hkl f.length _ (by omega) (by omega) (by omega),P1,cX (by omega) hx]
 unfold rT
 rw[har]
 cases hc:dN f f.length ((f.length:Int) - 1) with
 | none=>rfl
 | some p =>
  obtain⟨s,h⟩:=p
  have er:AR (some (s,h))=s:=rfl
  simp only[er]
  by_cases h0:s=0
  ·by_cases h3:x.1=3
   ·simp[h0,h3]
   ·rw[P5 (by simp[h0]),P5 (by simp[h3]),(tm hl hs hkl _ _ _ _ hc hl).2]
    simp[h0,h3]
  ·rw[P4 (by simp[h0])]
   simp[h0]
theorem zL {i:Nat} (hi:i < f.length):dk f (i:Int)=if je f i=true then dk f ((i+1:Nat):Int) else some ((false,()),()):=by
 obtain⟨x,hx⟩ : ∃ y,f[i]? = some y:=⟨f[i],Q7 _⟩
 have hm:x∈f:=T2 hx
 rw[ph,ay (by omega),cX (nn _) (by simpa using hx),vq (hs x hm),P1]
 have es:je f i=(dM x && x.2.2.2.2.2.1.all fun k=>ce k 0 ((i:Int) - 1) && (!jo f k || decide (x.1=6))):=by
  unfold je
  rw[hx]
 rw[es]
 cases ho:dM x with
 | false=>simp
 | true =>
  have:=qe hl hs hkl hx (by omega) x.2.2.2.2.2.1 [] rfl
  simp only[S1,P9,R0,Bool.true_and]
  exact this
open Classical in
theorem pz : ∀(n i:Nat),i+n=f.length→dk f (i:Int)=if(∀ j,i≤j→j < f.length→je f j=true) then dk f (f.length:Int) else some ((false,()),())
 | 0,i,h=>by
  have:i=f.length:=by omega
  rw[this,P5 (fun j h1 h2=>by omega)]
 | n+1,i,h=>by
  rw[zL hl hs hkl (by omega),pz n (i+1) (by omega)]
  by_cases h1:je f i=true
  ·rw[P5 h1]
   by_cases h2 : ∀ j,i+1≤j→j < f.length→je f j=true
   ·rw[P5 h2,P5 (fun j a b=>by
     by_cases hj:j=i
     ·rw[hj]; exact h1
     ·exact h2 j (by omega) b)]
   ·rw[P4 h2,P4 (fun h3=>h2 fun j a b=>h3 j (by omega) b)]
  ·rw[P4 h1,P4 (fun h3=>h1 (h3 i (Q6 _) (by omega)))]
theorem t7:nQ f=some ((nI f,()),()):=by
 rw[Cu]
 by_cases h1:(f.length:Int) < 1
 ·rw[ay h1]
  have:ce (f.length:Int) 1 60=false:=by simp[ce]; omega
  simp[nI,this]
 ·rw[aq h1]
  by_cases h2:(f.length:Int) > 60
  ·rw[ay h2]
   have:ce (f.length:Int) 1 60=false:=by simp[ce]; omega
   simp[nI,this]
  ·have hb:ce (f.length:Int) 1 60=true:=bK.2 (by omega)
   rw[aq h2,show(0:Int)=((0:Nat):Int) from rfl,pz hl hs hkl f.length 0 (by omega)]
   by_cases A : ∀ j,0≤j→j < f.length→je f j=true
   ·rw[P5 A,zK hl hs hkl (by omega) fun i x hx=>(w9 hx).1 (A i (Y6 _) (Q9.1 hx).1)]
    simp[nI,hb]
   ·rw[P4 A]
    have:nI f=false:=by
     cases ho:nI f with
     | false=>rfl
     | true =>
      refine S0 (fun j _ hj => ?_) A
      have hx:f[j]? = some f[j]:=Q7 _
      exact(w9 hx).2 (tn ho j _ hx)
    rw[this]
end
abbrev ae:=List UInt8
abbrev lb (s:P0):ae:=s.data.toList
abbrev ba (l:ae):P0:=⟨l.toArray⟩
theorem dc (l:ae):lb (ba l)=l:=by simp
theorem ic (s:P0):ba (lb s)=s:=by cases s; simp
theorem aJ (l:ae):(ba l).size=l.length:=by
 show(ba l).data.size=_
 simp
theorem wq (s:P0):(lb s).length=s.size:=by
 rw[Array.length_toList]
 rfl
theorem zM {a b:ae} (h:ba a=ba b):a=b:=by
 rw[←dc a,h,dc]
theorem OO {a b:ae}:(ba a=ba b)=(a=b):=propext ⟨zM,fun h=>by rw[h]⟩
theorem Ip (l:ae) (i j:Nat):(ba l).extract i j=ba ((l.take j).drop i):=by
 apply rS
 simp[ByteArray.data_extract,List.extract_eq_take_drop,List.drop_take]
theorem mX (a b:ae):ba a++ba b=ba (a++b):=by
 apply rS
 simp
theorem cY {a b:ae}:(P2 (ba a) == P2 (ba b))=decide (a=b):=by
 rw[kw,V3,Q0,Q0,OO]
theorem NU (l:ae):kD (ba l)=l.map fun b=>(b.toNat:Int):=by simp[kD]
theorem fO {β:Type} {l pre ys:ae} {y:UInt8} {f:Int→Option β} (h:l=pre++y :: ys):da (ba l) (pre.length:Int) f=f (y.toNat:Int):=by
 have:=vh (β:=β) (s:=ba l) (pre:=pre.map fun b=>(b.toNat:Int)) (ys:=ys.map fun b=>(b.toNat:Int)) (y:=(y.toNat:Int)) (f:=f) (by rw[NU,h]; simp)
 rw[List.length_map] at this
 exact this
theorem pA {β:Type} {y:UInt8} {ys:ae} {f:Int→Option β}:da (ba (y :: ys)) 0 f=f (y.toNat:Int):=fO (pre:=[]) rfl
theorem zN {β:Type} {l:ae} {n:Nat} {f:P0→Option β} (h:n≤l.length):wP (ba l) (n:Int) f=f (ba (l.take n)):=by
 rw[NP (nn _) (by rw[aJ]; omega),Ip]
 simp
theorem eK {β:Type} {l:ae} {n:Nat} {f:P0→Option β} (h:n≤l.length):gc (ba l) (n:Int) f=f (ba (l.drop n)):=by
 rw[NQ (nn _) (by rw[aJ]; omega),Ip,aJ]
 simp
theorem rU {β:Type} {l:ae} {i j:Nat} {f:P0→Option β} (h:i≤j) (hj:j≤l.length):pU (ba l) (i:Int) (j:Int) f=f (ba ((l.take j).drop i)):=by
 rw[NR (nn _) (by omega) (by rw[aJ]; omega),Ip]
 simp
theorem bm {β:Type} {a b:ae} {f:P0→Option β} (h:a.length+b.length≤9223372036854775807):cats (ba a) (ba b) f=f (ba (a++b)):=by
 rw[kC (by rw[aJ,aJ]; exact h),mX]
theorem qI (s p:ae) (hs:s.length≤9223372036854775807):dv (ba s) (ba p)=some ((p.isPrefixOf s,()),()):=by
 rw[o8,aJ,aJ]
 by_cases h:p.length≤s.length
 ·rw[ay (by omega),zN h,cY]
  congr 3
  rw[V3,Q0,Y8,List.prefix_iff_eq_take]
  exact eq_comm
 ·rw[aq (by omega)]
  congr 3
  symm
  rw[Bool.eq_false_iff]
  intro hp
  exact h (Y8.1 hp).length_le
theorem mY (s p:ae) (hs:s.length≤9223372036854775807):c7 (ba s) (ba p)=some ((p.isPrefixOf s,()),()):=by
 rw[tf,qI s p hs]
 rfl
theorem qf (s p:ae) (hs:s.length≤9223372036854775807):cn (ba s) (ba p)=some ((ba (if p.isPrefixOf s=true then s.drop p.length else s),p.isPrefixOf s,()),()):=by
 rw[td,o9,qI s p hs]
 simp only[P1]
 cases hp:p.isPrefixOf s with
 | false=>rfl
 | true =>
  have:=(Y8.1 hp).length_le
  simp only[S1,P9,R0,S2,aJ]
  rw[eK this]
  rfl
theorem qJ (s c:ae) (hc:mJ (ba c)=true):fd (ba s) (ba c)=some ((ba (s.dropWhile (c.contains ·)),()),()):=by
 rw[ug]
 show(if mJ (ba c)=true then some (((⟨(Lib.trimLeftS (lb (ba s)) (lb (ba c))).toArray⟩:P0),()),()) else none)=_
 rw[P5 hc,dc,dc]
 rfl
theorem vv {α:Type} (p:α→Bool) (l:List α):l.take (l.length - (l.dropWhile p).length)=l.takeWhile p∧l.drop (l.length - (l.dropWhile p).length)=l.dropWhile p∧(l.dropWhile p).length≤l.length:=by
 have h:=ba_ (p:=p) (l:=l)
 have hl:(l.takeWhile p).length+(l.dropWhile p).length=l.length:=by rw[←P6,h]
 have e:l.length - (l.dropWhile p).length=(l.takeWhile p).length:=by omega
 refine⟨?_,?_,by omega⟩
 ·rw[e]
  have:=cc_ (l₁:=l.takeWhile p) (l₂:=l.dropWhile p) rfl
  rw[h] at this
  exact this
 ·rw[e]
  have:=List.drop_left' (l₁:=l.takeWhile p) (l₂:=l.dropWhile p) rfl
  rw[h] at this
  exact this
theorem ew (c:UInt8) (l:ae) (a:UInt8):([a]:ae).isPrefixOf (c :: l)=decide (c=a):=by
 show(a == c && ([]:ae).isPrefixOf l)=_
 rw[show([]:ae).isPrefixOf l=true by cases l <;> rfl,bg_,V3,T7,Q0]
 exact eq_comm
theorem xO (c:UInt8) (t:ae):([c]:ae).isPrefixOf t=decide (t.head? = some c):=by
 cases t with
 | nil=>rfl
 | cons y t=>rw[ew]; simp
theorem xP (y:UInt8) (t:ae) (a c:UInt8):([a,c]:ae).isPrefixOf (y :: t)=(decide (y=a) && decide (t.head? = some c)):=by
 show(a == y && ([c]:ae).isPrefixOf t)=_
 rw[xO]
 congr 1
 rw[V3,T7,Q0]
 exact eq_comm
theorem AU (y c:UInt8) {n:Int} (hn:(c.toNat:Int)=n):((y.toNat:Int) == n)=decide (y=c):=by
 rw[V3,T7,Q0,←hn]
 constructor
 ·intro e
  apply UInt8.toNat_inj.1
  omega
 ·intro e
  rw[e]
theorem xQ {p:UInt8→Prop} [DecidablePred p] (h : ∀ n:Fin 256,p (UInt8.ofNat n.val)) (c:UInt8):p c:=by
 have:=h ⟨c.toNat,c.toNat_lt⟩
 simpa using this
def dH (c:UInt8):Bool:=decide (65≤c.toNat) && decide (c.toNat≤90)
def cR (c:UInt8):Bool:=decide (48≤c.toNat) && decide (c.toNat≤57)
def bh (a:Nat) (l:ae):Nat:=l.foldl (fun a c=>a*10+(c.toNat - 48)) a
theorem vw (a:Nat) (l:ae) (c:UInt8):bh a (l++[c])=bh a l*10+(c.toNat - 48):=by simp[bh]
theorem zO {u:Nat} (h:u < 10):R6 u=[UInt8.ofNat (48+u)]:=Lib.decDigits_one h
theorem Ef {u:Nat} (h : ¬u < 10):R6 u=R6 (u / 10)++[UInt8.ofNat (48+u % 10)]:=by
 rw[R6,dif_neg h]
theorem Iq {x:Nat} (h:x < 10):(UInt8.ofNat (48+x)).toNat=48+x:=by
 rw[UInt8.toNat_ofNat']
 omega
theorem J8 {m x:ae} (h:m≠[]):(m++x).head? = m.head? := by
 cases m with
 | nil=>exact S0 rfl h
 | cons a m=>rfl
def gl (l:ae):Bool:=l.all cR && decide (1≤l.length) && (decide (l.length=1) || !decide (l.head? = some 48))
theorem Eg : ∀(n u:Nat),u≤n→bh 0 (R6 u)=u∧gl (R6 u)=true∧(10≤u→2≤(R6 u).length)∧(1≤u→(R6 u).head? ≠ some 48)
 | n,u,hn=>by
  by_cases h:u < 10
  ·rw[zO h]
   have e:=Iq h
   refine⟨by simp[bh]; omega,?_,fun h2=>by omega,fun h1 h2 => ?_⟩
   ·simp only[gl,cR,X5,List.all_nil,e]
    simp
    omega
   ·simp only[W9,R8] at h2
    rw[h2] at e
    have:(48:UInt8).toNat=48:=rfl
    omega
  ·cases n with
   | zero=>omega
   | succ n =>
    obtain⟨h1,h2,h3,h4⟩:=Eg n (u / 10) (by omega)
    rw[Ef h,vw,h1,Iq (Nat.mod_lt _ (by decide))]
    have h4:=h4 (by omega)
    simp only[gl,P8,Q0] at h2
    obtain⟨⟨k1,k2⟩,k3⟩:=h2
    have hne:R6 (u / 10)≠[]:=by
     intro e
     rw[e] at k2
     simp at k2
    have hh:(R6 (u / 10)++[UInt8.ofNat (48+u % 10)]).head? ≠ some 48:=by
     rw[J8 hne]
     exact h4
    refine⟨by omega,?_,fun _=>by rw[P6,P3]; omega,fun _=>hh⟩
    simp only[gl,ac_,k1,X5,List.all_nil,cR,Iq (Nat.mod_lt u (show 0 < 10 by decide)),P8,Z6,Q0]
    refine⟨⟨by simp; omega,by simp⟩,.inr (by simpa using hh)⟩
theorem pB (u:Nat):bh 0 (R6 u)=u:=(Eg u u (Q6 _)).1
theorem xR (u:Nat):gl (R6 u)=true:=(Eg u u (Q6 _)).2.1
theorem GK {c:UInt8} (h:cR c=true):UInt8.ofNat (48+(c.toNat - 48))=c:=by
 simp only[cR,P8,Q0] at h
 have:48+(c.toNat - 48)=c.toNat:=by omega
 rw[this]
 simp
theorem GL : ∀(l:ae),gl l=true→R6 (bh 0 l)=l∧(l.head? ≠ some 48→1≤bh 0 l):=by
 intro l
 induction hn:l.length using Nat.strongRecOn generalizing l with
 | ind n ih =>
  intro h
  rcases List.eq_nil_or_concat l with rfl | ⟨m,c,rfl⟩
  ·simp[gl] at h
  ·rw[List.concat_eq_append] at *
   simp only[gl,P8,Z6,Q0,ac_,X5,List.all_nil,bg_] at h
   obtain⟨⟨⟨k1,k0⟩,k2⟩,k3⟩:=h
   have kd:48≤c.toNat∧c.toNat≤57:=by simpa[cR] using k0
   rw[vw]
   by_cases hm:m=[]
   ·subst hm
    have e:bh 0 []*10+(c.toNat - 48)=c.toNat - 48:=by simp[bh]
    rw[e,zO (by omega),GK k0]
    refine⟨rfl,fun hh => ?_⟩
    have:c.toNat≠48:=by
     intro e
     apply hh
     simp only[List.nil_append,W9]
     congr 1
     exact UInt8.toNat_inj.1 e
    omega
   ·have hm1:1≤m.length:=List.length_pos_iff.2 hm
    have hh:(m++[c]).head? = m.head? := J8 hm
    have k4:m.head? ≠ some 48:=by
     rcases k3 with k3 | k3
     ·rw[P6,P3] at k3
      omega
     ·rw[hh] at k3
      simpa using k3
    obtain⟨i1,i2⟩:=ih m.length (by rw[←hn,P6,P3]; omega) m rfl (by
     simp only[gl,P8,Z6,Q0]
     exact⟨⟨k1,hm1⟩,.inr (by simpa using k4)⟩)
    have i2:=i2 k4
    refine⟨?_,fun _=>by omega⟩
    rw[Ef (by omega)]
    have e1:(bh 0 m*10+(c.toNat - 48)) / 10=bh 0 m:=by omega
    have e2:(bh 0 m*10+(c.toNat - 48)) % 10=c.toNat - 48:=by omega
    rw[e1,e2,i1,GK k0]
theorem l8 (u:Nat):fm (u:Int)=ba (R6 u):=qd u
theorem wt : ∀(l:ae) (a:Nat),l.all cR=true→bh a l < (a+1)*10 ^ l.length
 | [],a,_=>by simp[bh]
 | c :: l,a,h=>by
  simp only[X5,P8] at h
  have kd:48≤c.toNat∧c.toNat≤57:=by simpa[cR] using h.1
  have:=wt l (a*10+(c.toNat - 48)) h.2
  show bh (a*10+(c.toNat - 48)) l < _
  refine U7 this ?_
  rw[Q1,Nat.pow_succ]
  have:a*10+(c.toNat - 48)+1≤(a+1)*10:=by omega
  calc (a*10+(c.toNat - 48)+1)*10 ^ l.length≤((a+1)*10)*10 ^ l.length:=Nat.mul_le_mul_right _ this
   _=(a+1)*(10 ^ l.length*10):=by rw[Nat.mul_assoc,Nat.mul_comm 10]
def eN (c:Nat):ae:=if c≤26 then [UInt8.ofNat (64+c)] else [65,UInt8.ofNat (38+c)]
theorem J9 : ∀ c:Fin 53,1≤c.val→c.val≤26→strOfNums ([(IntKind.u8.wrap (ci_ cj_ ((ci_ cj_ (65+(c.val:Int))) - 1)))]:List Int)=ba (eN c.val):=by decide +kernel
theorem Ka : ∀ c:Fin 53,1≤c.val → ¬c.val≤26→strOfNums ([(IntKind.u8.wrap (ci_ cj_ ((ci_ cj_ (65+(ci_ cj_ (Int.tdiv (ci_ cj_ ((c.val:Int) - 1)) 26)))) - 1))),(IntKind.u8.wrap (ci_ cj_ (65+(ap_ (ci_ cj_ ((c.val:Int) - 1)) 26))))]:List Int)=ba (eN c.val):=by decide +kernel
theorem Kb : ∀ c:Fin 53,1≤c.val→strOfNums ([(IntKind.u8.wrap (ci_ cj_ (65+(ap_ (ci_ cj_ ((c.val:Int) - 1)) 26))))]:List Int)=ba (if c.val≤26 then eN c.val else(eN c.val).drop 1):=by decide +kernel
theorem Kc : ∀ c:Fin 53,1≤c.val→IntKind.i64.wrap (Int.tdiv (ci_ cj_ ((c.val:Int) - 1)) 26)=if c.val≤26 then 0 else 1:=by decide +kernel
theorem xa {c:Nat} (h1:1≤c) (h2:c≤52):l5 (c:Int)=some ((ba (eN c),()),()):=by
 rw[F1,dY]
 simp only[P1]
 rw[show ce (c:Int) 1 52=true from bK.2 ⟨by omega,by omega⟩]
 simp only[S1,P9,R0]
 by_cases h:c≤26
 ·rw[ay (by omega),J9 ⟨c,by omega⟩ h1 h]
 ·rw[aq (by omega),Ka ⟨c,by omega⟩ h1 h]
theorem pC (c:Nat):1≤(eN c).length∧(eN c).length≤2:=by
 unfold eN
 split <;> simp
theorem xb {c:Nat} (h1:1≤c) (h2:c≤52):oU (c:Int)=some ((ba (eN c),()),()):=by
 have k1:=Kb ⟨c,by omega⟩ h1
 have k2:=Kc ⟨c,by omega⟩ h1
 have kl:=pC c
 rw[FL,iG]
 simp only[P1]
 rw[show ce (c:Int) 1 52=true from bK.2 ⟨by omega,by omega⟩]
 simp only[S1,P9,R0]
 simp only at k1 k2
 rw[jd,ay (by omega),k1,k2]
 by_cases h:c≤26
 ·rw[P5 h,P5 h,bm (by simp only[S4]; omega),jd,aq (by decide),T8]
 ·rw[P4 h,P4 h,bm (by simp only[S4,al_]; omega),jd,ay (by decide),T8]
  have k3':strOfNums ([(IntKind.u8.wrap (ci_ cj_ (65+(ap_ (ci_ cj_ ((1:Int) - 1)) 26))))]:List Int)=ba [65]:=by decide +kernel
  have k4':IntKind.i64.wrap (Int.tdiv (ci_ cj_ ((1:Int) - 1)) 26)=0:=by decide +kernel
  rw[k3',k4',bm (by simp only[Q1,S4,al_]; omega),jd,aq (by decide)]
  congr 3
  unfold eN
  rw[P4 h]
  rfl
theorem xS {P:P0→Int→Option ((Int×Unit)×Unit)} {C:Int→Option ((P0×Unit)×Unit)}
  (hP : ∀ x n,P x n=if decide (n≤52)=true then(C n).bind fun z1=>(if(P2 z1.1.1 == P2 x)=true then some ((n,()),()) else P x (ci_ cj_ (n+1))) else some ((0,()),()))
  (hC : ∀ c:Nat,1≤c→c≤52→C (c:Int)=some ((ba (eN c),()),())) (w:ae) : ∀ k n:Nat,n+k=53→1≤n→P (ba w) (n:Int)=some ((((((List.range' n k).find? fun m=>decide (eN m=w)).getD 0:Nat):Int),()),())
 | 0,n,h,_=>by
  rw[hP,aq (by omega)]
  rfl
 | k+1,n,h,h1=>by
  rw[hP,ay (by omega),hC n h1 (by omega)]
  simp only[P1,cY,List.range'_succ,List.find?_cons]
  by_cases he:eN n=w
  ·simp[he]
  ·rw[P4 (by simpa using he),wr (by omega) (by omega)]
   simp only[he,V5]
   exact xS hP hC w k (n+1) (by omega) (by omega)
def gM (w:ae):Nat:=((List.range' 1 52).find? fun m=>decide (eN m=w)).getD 0
theorem F7 (w:ae):xF (ba w)=some ((((gM w:Nat):Int),()),()):=by
 rw[F2]
 exact xS (fun x n=>AP) (fun c h1 h2=>xa h1 h2) w 52 1 rfl (Q6 _)
theorem F8 (w:ae):lZ (ba w)=some ((((gM w:Nat):Int),()),()):=by
 rw[FM]
 exact xS (fun x n=>AN) (fun c h1 h2=>xb h1 h2) w 52 1 rfl (Q6 _)
theorem zP : ∀ m:Fin 53,1≤m.val→gM (eN m.val)=m.val:=by decide +kernel
theorem Kd {w:ae} (h:1≤gM w):gM w≤52∧eN (gM w)=w:=by
 unfold gM at h ⊢
 cases hf:(List.range' 1 52).find? fun m=>decide (eN m=w) with
 | none=>rw[hf] at h; simp at h
 | some m =>
  have h1:=List.find?_some hf
  have h2:=List.mem_of_find?_eq_some hf
  rw[List.mem_range'_1] at h2
  simp only[W2]
  exact⟨by omega,by simpa using h1⟩
def l9 (b:Bool):ae:=if b=true then [36] else []
def rV (c r:Nat) (fc fr:Bool):ae:=l9 fc++(eN c++(l9 fr++R6 r))
def ji (p:b8):ae:=rV p.1.1.toNat p.1.2.1.toNat p.2.1 p.2.2.1
theorem mZ {r:aw}:bQ r=true↔(1≤r.1∧r.1≤52)∧1≤r.2.1∧r.2.1≤99:=by
 unfold bQ
 rw[P8,bK,bK]
theorem n4 {r:Nat} (h:r≤99):(R6 r).length≤2:=zE 1 r (by omega)
theorem jT (p:b8):jb p=some ((if bQ p.1=true then ba (ji p) else ba [],()),()):=by
 rw[CH,qb]
 simp only[P1]
 cases hr:bQ p.1 with
 | false=>rfl
 | true =>
  simp only[S1,P9,R0,S2]
  obtain⟨⟨c,r,u⟩,fc,fr,u'⟩:=p
  obtain⟨⟨h1,h2⟩,h3,h4⟩:=mZ.1 hr
  simp only at h1 h2 h3 h4 ⊢
  obtain⟨c,rfl⟩ : ∃ n:Nat,c=n:=⟨c.toNat,by omega⟩
  obtain⟨r,rfl⟩ : ∃ n:Nat,r=n:=⟨r.toNat,by omega⟩
  have kc:=pC c
  have kr:=n4 (r:=r) (by omega)
  have e1:l5 (c:Int)=some ((ba (eN c),()),()):=xa (by omega) (by omega)
  have e2:gG (r:Int)=some ((ba (R6 r),()),()):=by rw[qH (by omega) (by omega),l8]
  unfold ji rV
  simp only[Z9]
  cases fc <;> cases fr <;> simp only[e1,e2,P1,S2,R0,P9,l9]
  all_goals
   repeat rw[bm (by first | omega | (simp only[P6,Q1,S4]; omega))]
   simp
theorem nl (p:b8):lh p=some ((if bQ p.1=true then ba (ji p) else ba [],()),()):=by
 rw[Cw,kE]
 simp only[P1]
 cases hr:bQ p.1 with
 | false=>rfl
 | true =>
  simp only[S1,P9,R0,S2]
  obtain⟨⟨c,r,u⟩,fc,fr,u'⟩:=p
  obtain⟨⟨h1,h2⟩,h3,h4⟩:=mZ.1 hr
  simp only at h1 h2 h3 h4 ⊢
  obtain⟨c,rfl⟩ : ∃ n:Nat,c=n:=⟨c.toNat,by omega⟩
  obtain⟨r,rfl⟩ : ∃ n:Nat,r=n:=⟨r.toNat,by omega⟩
  have kc:=pC c
  have kr:=n4 (r:=r) (by omega)
  have e1:oU (c:Int)=some ((ba (eN c),()),()):=xb (by omega) (by omega)
  have e2:jx (r:Int)=some ((ba (R6 r),()),()):=by rw[BP (by omega) (by omega),l8]
  unfold ji rV
  simp only[Z9]
  cases fc <;> cases fr <;> simp only[e1,e2,P1,S2,R0,P9,l9]
  all_goals
   repeat rw[bm (by first | omega | (simp only[P6,Q1,S4]; omega))]
   simp
theorem xc {w:ae} (hw:w.length≤18) : ∀(ys pre:ae),w=pre++ys→pre.all cR=true→kB (ba w) (bh 0 pre:Nat) (pre.length:Int)=some ((if ys.all cR=true then((bh 0 w:Nat):Int) else 0,ys.all cR,()),())
 | [],pre,h,hp=>by
  rw[T8] at h
  subst h
  rw[vk,aq (by rw[aJ]; omega)]
  rfl
 | y :: ys,pre,h,hp=>by
  have hl:pre.length < w.length:=by rw[h]; simp
  rw[vk,ay (by rw[aJ]; omega),fO h]
  by_cases h1:y.toNat < 48
  ·have hd:cR y=false:=by simp[cR]; omega
   rw[ay (by omega)]
   simp[hd]
  ·rw[aq (by omega),fO h]
   by_cases h2:57 < y.toNat
   ·have hd:cR y=false:=by simp[cR]; omega
    rw[ay (by omega)]
    simp[hd]
   ·have hd:cR y=true:=by simp[cR]; omega
    rw[aq (by omega),fO h]
    have hv:=wt pre 0 hp
    have hv2:10 ^ pre.length≤10 ^ 17:=Nat.pow_le_pow_right (by decide) (by omega)
    have hv3:bh 0 pre < 100000000000000000:=by
     rw[Nat.zero_add,Nat.one_mul] at hv
     exact U7 hv hv2
    clear hv hv2
    have e1:IntKind.u8.wrap ((y.toNat:Int) - 48)=((y.toNat - 48:Nat):Int):=by rw[O9 (by omega) (by omega)]; omega
    have w1:IntKind.i64.wrap (((bh 0 pre:Nat):Int)*10)=((bh 0 pre:Nat):Int)*10:=wr (by omega) (by omega)
    have w2:IntKind.i64.wrap ((y.toNat - 48:Nat):Int)=((y.toNat - 48:Nat):Int):=wr (by omega) (by omega)
    rw[e1,w1,w2,wr (n:=((bh 0 pre:Nat):Int)*10+((y.toNat - 48:Nat):Int)) (by omega) (by omega),wr (n:=(pre.length:Int)+1) (by omega) (by omega)]
    have e2:((bh 0 pre:Nat):Int)*10+((y.toNat - 48:Nat):Int)=((bh 0 (pre++[y]):Nat):Int):=by rw[vw]; omega
    have e3:(pre.length:Int)+1=((pre++[y]).length:Int):=by simp
    rw[e2,e3,xc hw ys (pre++[y]) (by rw[h]; simp) (by simp[hp,hd])]
    simp[hd]
def cf (w:ae) (m:Nat):Bool:=gl w && decide (w.length≤m)
theorem vx (w:ae) {m:Nat} (hm:m≤18):cq (ba w) (m:Int)=some ((if cf w m=true then((bh 0 w:Nat):Int) else 0,cf w m,()),()):=by
 rw[JT,aJ]
 cases w with
 | nil =>
  rw[ay (by simp)]
  rfl
 | cons y ys =>
  have hlen:(y :: ys:ae).length=ys.length+1:=rfl
  rw[aq (by omega)]
  by_cases h:(y :: ys:ae).length≤m
  ·have hle:decide ((y :: ys:ae).length≤m)=true:=R5 h
   rw[aq (by omega),pA]
   have hl:=xc (w:=y :: ys) (by omega) (y :: ys) [] rfl rfl
   have hl:kB (ba (y :: ys)) 0 0=_:=hl
   have h0n:decide (1≤(y :: ys:ae).length)=true:=R5 (by omega)
   by_cases h0:y=48
   ·subst h0
    rw[P5 (by rfl)]
    by_cases h1:ys.length=0
    ·rw[aq (by omega),hl]
     have h1':decide ((48 :: ys:ae).length=1)=true:=R5 (by omega)
     have e:cf (48 :: ys) m=(48 :: ys:ae).all cR:=by
      unfold cf gl
      rw[hle,h0n,h1']
      simp
     rw[e]
    ·rw[ay (by omega)]
     have h1':decide ((48 :: ys:ae).length=1)=false:=S3 (by omega)
     have e:cf (48 :: ys) m=false:=by
      unfold cf gl
      rw[h1']
      simp
     rw[e]
     rfl
   ·have h0' : ¬((y.toNat:Int) == 48)=true:=by
     simp only[T7]
     intro e
     apply h0
     apply UInt8.toNat_inj.1
     show y.toNat=48
     omega
    rw[P4 h0',hl]
    have e:cf (y :: ys) m=(y :: ys:ae).all cR:=by
     have h2:decide ((y :: ys:ae).head? = some 48)=false:=S3 (by simpa using h0)
     unfold cf gl
     rw[hle,h0n,h2]
     simp
    rw[e]
  ·rw[ay (by omega)]
   have e:cf (y :: ys) m=false:=by
    unfold cf
    rw[S3 h]
    simp
   rw[e]
   rfl
theorem xT {w:ae} {m:Nat} (h:cf w m=true):R6 (bh 0 w)=w∧w.length≤m:=by
 unfold cf at h
 rw[P8,Q0] at h
 exact⟨(GL w h.1).1,h.2⟩
theorem vy {u m:Nat} (h:(R6 u).length≤m):cf (R6 u) m=true:=by
 unfold cf
 rw[xR]
 simpa using h
theorem qK {w:ae} (hw:w.length≤281474976710656):ff (ba w) 10 64=some (((bP w).1,(bP w).2,()),()):=by
 rw[ui]
 show(if(ba w).size≤281474976710656∧(10:Int)=10∧(64:Int)=64 then some (((bP (lb (ba w))).1,(bP (lb (ba w))).2,()),()) else none)=_
 rw[P5 ⟨by rw[aJ]; exact hw,rfl,rfl⟩,dc]
theorem MO : ∀ r:Fin 10,(bP [UInt8.ofNat (48+r.val)]).1=(r.val:Int):=by decide +kernel
theorem MP : ∀ r:Fin 100,(bP [UInt8.ofNat (48+r.val / 10),UInt8.ofNat (48+r.val % 10)]).1=(r.val:Int):=by decide +kernel
theorem Ke {r:Nat} (h:r < 100):(bP (R6 r)).1=(r:Int):=by
 by_cases h1:r < 10
 ·rw[Lib.decDigits_one h1]
  exact MO ⟨r,h1⟩
 ·rw[Lib.decDigits_two h1 h]
  exact MP ⟨r,h⟩
theorem NV:(fun c=>([65,66,67,68,69,70,71,72,73,74,75,76,77,78,79,80,81,82,83,84,85,86,87,88,89,90]:ae).contains c)=dH:=funext fun c=>xQ (p:=fun c=>([65,66,67,68,69,70,71,72,73,74,75,76,77,78,79,80,81,82,83,84,85,86,87,88,89,90]:ae).contains c=dH c) (by decide +kernel) c
def bN (w:ae):Bool×ae:=(([36]:ae).isPrefixOf w,if([36]:ae).isPrefixOf w=true then w.drop 1 else w)
theorem BS (w:ae):l9 (bN w).1++(bN w).2=w:=by
 unfold bN l9
 cases w with
 | nil=>rfl
 | cons c l =>
  by_cases h:c=36
  ·subst h
   simp
  ·have:([36]:ae).isPrefixOf (c :: l)=false:=by rw[ew]; simp[h]
   simp[this]
theorem Eh {b:Bool} {w:ae} (h:w.head? ≠ some 36):bN (l9 b++w)=(b,w):=by
 unfold bN l9
 cases b with
 | true=>simp
 | false =>
  cases w with
  | nil=>rfl
  | cons c l =>
   have h':c≠36:=fun e=>h (by rw[e]; rfl)
   have:([36]:ae).isPrefixOf (c :: l)=false:=by rw[ew]; simp[h']
   simp[this]
theorem Ei (w:ae):(bN w).2.length≤w.length:=by
 unfold bN
 split <;> simp
def lz (w:ae):b8:=((((gM ((bN w).2.takeWhile dH):Nat):Int),(bP (bN ((bN w).2.dropWhile dH)).2).1,()),(bN w).1,(bN ((bN w).2.dropWhile dH)).1,())
theorem BT (p:UInt8→Bool) (l:ae):(l.dropWhile p).length≤l.length:=(vv p l).2.2
theorem NW {w:ae} (hw:w.length≤9223372036854775807):cn (ba w) (⟨#[36]⟩:P0)=some ((ba (bN w).2,(bN w).1,()),()):=qf w [36] hw
theorem Ej {w:ae} (hw:w.length≤281474976710656) :
  eM (ba w)=some ((if bQ (lz w).1=true∧ji (lz w)=w then lz w else p0,decide (bQ (lz w).1=true∧ji (lz w)=w),()),()):=by
 have l1:=Ei w
 have l2:=BT dH (bN w).2
 have l3:=Ei ((bN w).2.dropWhile dH)
 obtain⟨d1,d2,d3⟩:=vv dH (bN w).2
 rw[CI,NW (by omega)]
 simp only[P1]
 rw[qJ _ _ (by decide +kernel),NV]
 simp only[P1,aJ]
 rw[wr (by omega) (by omega),show((bN w).2.length:Int) - (((bN w).2.dropWhile dH).length:Int)=(((bN w).2.length - ((bN w).2.dropWhile dH).length:Nat):Int) by omega,zN (by omega),d1,F7]
 simp only[P1]
 rw[eK (by omega),d2,NW (by omega)]
 simp only[P1]
 rw[qK (by omega)]
 simp only[P1,qb,jT]
 have e:lz w=((((gM ((bN w).2.takeWhile dH):Nat):Int),(bP (bN ((bN w).2.dropWhile dH)).2).1,()),(bN w).1,(bN ((bN w).2.dropWhile dH)).1,()):=rfl
 rw[←e]
 have e1:(((gM ((bN w).2.takeWhile dH):Nat):Int),(bP (bN ((bN w).2.dropWhile dH)).2).1,())=(lz w).1:=rfl
 rw[e1]
 cases hr:bQ (lz w).1 with
 | false=>simp
 | true =>
  simp only[S1,P9,R0,S2,cY,true_and]
  by_cases hp:ji (lz w)=w
  ·simp[hp]
  ·simp[hp]
theorem GM : ∀ c:Fin 53,1≤c.val→(eN c.val).all dH=true:=by decide +kernel
theorem OP {y:UInt8} (h:dH y=true):y≠36:=by
 rintro rfl
 exact S0 h (by decide)
theorem Mq {y:UInt8} (h:cR y=true):y≠36∧dH y=false:=by
 refine⟨?_,?_⟩
 ·rintro rfl
  exact S0 h (by decide)
 ·simp only[cR,dH,P8,Q0,Bool.and_eq_false_iff,decide_eq_false_iff_not] at h ⊢
  omega
theorem zQ (u:Nat) : ∃ y l,R6 u=y :: l∧cR y=true:=by
 have h:=xR u
 unfold gl at h
 simp only[P8,Q0] at h
 cases hd:R6 u with
 | nil=>rw[hd] at h; simp at h
 | cons y l =>
  rw[hd] at h
  refine⟨y,l,rfl,?_⟩
  have:=h.1.1
  simp only[X5,P8] at this
  exact this.1
theorem MQ {c:Nat} (h1:1≤c) (h2:c≤52) (x:ae):(eN c++x).head? ≠ some 36:=by
 have h:=GM ⟨c,by omega⟩ h1
 have hl:=pC c
 simp only at h
 cases hc:eN c with
 | nil=>rw[hc] at hl; simp at hl
 | cons y l =>
  rw[hc] at h
  simp only[X5,P8] at h
  intro e
  simp only[Z7,W9,R8] at e
  exact OP h.1 e
theorem Ek {c r:Nat} (h1:1≤c) (h2:c≤52) (fc fr:Bool):(bN (rV c r fc fr)).1=fc∧(bN (rV c r fc fr)).2.takeWhile dH=eN c∧(bN ((bN (rV c r fc fr)).2.dropWhile dH)).1=fr∧(bN ((bN (rV c r fc fr)).2.dropWhile dH)).2=R6 r:=by
 unfold rV
 rw[Eh (MQ h1 h2 _)]
 have hu:=W6.1 (GM ⟨c,by omega⟩ h1)
 simp only at hu ⊢
 obtain⟨y,l,hy,hd⟩:=zQ r
 have hn : ∃ z m,l9 fr++R6 r=z :: m∧dH z=false:=by
  cases fr with
  | true=>exact⟨36,_,rfl,by decide⟩
  | false=>exact⟨y,l,hy,(Mq hd).2⟩
 obtain⟨z,m,hz,hzu⟩:=hn
 have ht:(l9 fr++R6 r).takeWhile dH=[]:=by rw[hz]; simp[hzu]
 have hdr:(l9 fr++R6 r).dropWhile dH=l9 fr++R6 r:=by rw[hz]; simp[hzu]
 rw[List.takeWhile_append_of_pos hu,List.dropWhile_append_of_pos hu,ht,hdr,T8,Eh (by rw[hy]; simp only[W9,ne_eq,R8]; exact(Mq hd).1)]
 simp
theorem vz {p:b8} (h:bQ p.1=true) : ∃(c r:Nat) (fc fr:Bool),p=(((c:Int),(r:Int),()),fc,fr,())∧1≤c∧c≤52∧1≤r∧r≤99:=by
 obtain⟨⟨c,r,u⟩,fc,fr,u'⟩:=p
 obtain⟨⟨h1,h2⟩,h3,h4⟩:=mZ.1 h
 simp only at h1 h2 h3 h4
 refine⟨c.toNat,r.toNat,fc,fr,?_,by omega,by omega,by omega,by omega⟩
 rw[X1 (by omega),X1 (by omega)]
theorem MR {p:b8} (h:bQ p.1=true):lz (ji p)=p:=by
 obtain⟨c,r,fc,fr,rfl,h1,h2,h3,h4⟩:=vz h
 obtain⟨e1,e2,e3,e4⟩:=Ek (r:=r) h1 h2 fc fr
 show lz (rV c r fc fr)=_
 unfold lz
 rw[e1,e2,e3,e4,zP ⟨c,by omega⟩ h1,Ke (by omega)]
def lA (fc:Bool) (ls w2:ae):b8×Bool :=
 if cf (bN w2).2 2=true∧bQ (((gM ls:Nat):Int),((bh 0 (bN w2).2:Nat):Int),())=true then(((((gM ls:Nat):Int),((bh 0 (bN w2).2:Nat):Int),()),fc,(bN w2).1,()),true) else(p0,false)
def cg (w:ae):b8×Bool:=lA (bN w).1 ((bN w).2.takeWhile dH) ((bN w).2.dropWhile dH)
theorem Ir {fc:Bool} {ls w2:ae} {f1:Bool} {w3:ae} (h:bN w2=(f1,w3)) :
  ((cq (ba w3) 2).bind fun z2=>(if(!z2.1.2.1)=true then(some ((((0,0,()),false,false,()),false,()),(()))) else((dg (((gM ls:Nat):Int),z2.1.1,())).bind fun z3=>(if(!z3.1.1)=true then(some ((((0,0,()),false,false,()),false,()),(()))) else(some (((((((gM ls:Nat):Int),z2.1.1,()),fc,f1,()):b8),true,()),(())))))))=some (((lA fc ls w2).1,(lA fc ls w2).2,()),()):=by
 have e:=vx w3 (m:=2) (by decide)
 have e:cq (ba w3) 2=_:=e
 rw[e]
 simp only[P1,kE]
 unfold lA
 rw[h]
 cases hr:cf w3 2 with
 | false=>simp
 | true =>
  simp only[S1,P9,R0,S2,true_and]
  cases ho:bQ (((gM ls:Nat):Int),((bh 0 w3:Nat):Int),()) with
  | false=>simp
  | true=>simp
theorem Pa {fc:Bool} {w1 pre ys:ae} (h:w1=pre++ys) (hl:w1.length≤9223372036854775807) :
  (wP (ba w1) (pre.length:Int) fun y7=>((lZ y7).bind fun z8=>(gc (ba w1) (pre.length:Int) fun y8=>(if(decide ((Q8 y8:Int) > 0))=true then(da y8 0 fun y9=>(if(y9 == 36)=true then(gc y8 1 fun y10=>((cq y10 2).bind fun z9=>(if(!z9.1.2.1)=true then(some ((((0,0,()),false,false,()),false,()),(()))) else((dg (z8.1.1,z9.1.1,())).bind fun z10=>(if(!z10.1.1)=true then(some ((((0,0,()),false,false,()),false,()),(()))) else(some ((((z8.1.1,z9.1.1,()),fc,true,()),true,()),(())))))))) else((cq y8 2).bind fun z11=>(if(!z11.1.2.1)=true then(some ((((0,0,()),false,false,()),false,()),(()))) else((dg (z8.1.1,z11.1.1,())).bind fun z12=>(if(!z12.1.1)=true then(some ((((0,0,()),false,false,()),false,()),(()))) else(some ((((z8.1.1,z11.1.1,()),fc,false,()),true,()),(()))))))))) else((cq y8 2).bind fun z13=>(if(!z13.1.2.1)=true then(some ((((0,0,()),false,false,()),false,()),(()))) else((dg (z8.1.1,z13.1.1,())).bind fun z14=>(if(!z14.1.1)=true then(some ((((0,0,()),false,false,()),false,()),(()))) else(some ((((z8.1.1,z13.1.1,()),fc,false,()),true,()),(())))))))))))
   = (some (((lA fc pre ys).1,(lA fc pre ys).2,()),()):Option ((b8×Bool×Unit)×Unit)):=by
 subst h
 have hle:pre.length≤(pre++ys).length:=by simp
 rw[zN hle,cc_ rfl,F8]
 simp only[P1]
 rw[eK hle,List.drop_left' rfl,aJ]
 cases ys with
 | nil =>
  rw[aq (by simp)]
  exact Ir rfl
 | cons y l =>
  rw[ay (by simp),pA]
  by_cases hy:y=36
  ·subst hy
   rw[P5 (by rfl),show(1:Int)=((1:Nat):Int) from rfl,eK (by simp)]
   exact Ir (by unfold bN; rw[ew]; simp)
  ·have h0' : ¬((y.toNat:Int) == 36)=true:=by
    simp only[T7]
    intro e
    apply hy
    apply UInt8.toNat_inj.1
    show y.toNat=36
    omega
   rw[P4 h0']
   exact Ir (by unfold bN; rw[ew]; simp[hy])
theorem ie {fc:Bool} {w1:ae} (hl:w1.length≤9223372036854775806) : ∀(ys pre:ae),w1=pre++ys→fx (ba w1) (pre.length:Int) 0 0 false false 0 0 fc false=some (((lA fc (pre++ys.takeWhile dH) (ys.dropWhile dH)).1,(lA fc (pre++ys.takeWhile dH) (ys.dropWhile dH)).2,()),())
 | [],pre,h=>by
  have hlen:w1.length=pre.length:=by rw[h]; simp
  rw[pe,aq (by rw[aJ]; omega)]
  simpa using Pa (fc:=fc) h (by omega)
 | y :: ys,pre,h=>by
  have hlen:pre.length < w1.length:=by rw[h]; simp
  rw[pe,ay (by rw[aJ]; omega),fO h]
  cases hu:dH y with
  | true =>
   have hu':65≤y.toNat∧y.toNat≤90:=by simpa[dH] using hu
   rw[ay (by omega),fO h,ay (by omega),wr (by omega) (by omega),show(pre.length:Int)+1=((pre++[y]).length:Int) by simp,ie hl ys (pre++[y]) (by rw[h]; simp)]
   simp[hu]
  | false =>
   have hk:=Pa (fc:=fc) h (by omega)
   rw[List.takeWhile_cons_of_neg (by simp[hu]),List.dropWhile_cons_of_neg (by simp[hu]),T8]
   by_cases h1:65≤y.toNat
   ·have h2 : ¬y.toNat≤90:=by
     intro h2
     simp[dH,h1,h2] at hu
    rw[ay (by omega),fO h,aq (by omega)]
    exact hk
   ·rw[aq (by omega)]
    exact hk
theorem np {w:ae} (hw:w.length≤281474976710656):i8 (ba w)=some (((cg w).1,(cg w).2,()),()):=by
 rw[Cr,aJ]
 cases w with
 | nil =>
  rw[aq (by simp)]
  exact ie (fc:=false) (w1:=[]) (by simp) [] [] rfl
 | cons y l =>
  rw[Q1] at hw
  rw[ay (by simp),pA]
  by_cases hy:y=36
  ·subst hy
   rw[P5 (by rfl),show(1:Int)=((1:Nat):Int) from rfl,eK (by simp)]
   have:=ie (fc:=true) (w1:=l) (by omega) l [] rfl
   have e:bN (36 :: l)=(true,l):=by unfold bN; rw[ew]; simp
   unfold cg
   rw[e]
   exact this
  ·have h0' : ¬((y.toNat:Int) == 36)=true:=by
    simp only[T7]
    intro e
    apply hy
    apply UInt8.toNat_inj.1
    show y.toNat=36
    omega
   rw[P4 h0']
   have:=ie (fc:=false) (w1:=y :: l) (by rw[Q1]; omega) (y :: l) [] rfl
   have e:bN (y :: l)=(false,y :: l):=by unfold bN; rw[ew]; simp[hy]
   unfold cg
   rw[e]
   exact this
theorem MS {w:ae} (h:(cg w).2=true):bQ (cg w).1.1=true∧ji (cg w).1=w:=by
 unfold cg lA at h ⊢
 split at h
 ·rename_i hc
  rw[P5 hc]
  refine⟨hc.2,?_⟩
  obtain⟨⟨k1,k2⟩,k3,k4⟩:=mZ.1 hc.2
  simp only at k1 k2 k3 k4
  obtain⟨c1,c2⟩:=Kd (w:=(bN w).2.takeWhile dH) (by omega)
  obtain⟨r1,r2⟩:=xT hc.1
  unfold ji rV
  simp only[Z9]
  rw[c2,r1,BS,ba_,BS]
 ·cases h
theorem Kf {p:b8} (h:bQ p.1=true):cg (ji p)=(p,true):=by
 obtain⟨c,r,fc,fr,rfl,h1,h2,h3,h4⟩:=vz h
 obtain⟨e1,e2,e3,e4⟩:=Ek (r:=r) h1 h2 fc fr
 show cg (rV c r fc fr)=_
 unfold cg lA
 rw[e1,e2,e3,e4,zP ⟨c,by omega⟩ h1,pB,P5 ⟨vy (n4 h4),h⟩]
theorem MT {w:ae} (h:(cg w).2=false):cg w=(p0,false):=by
 unfold cg lA at h ⊢
 split at h
 ·cases h
 ·rename_i hc
  rw[P4 hc]
theorem jU {w:ae} (hw:w.length≤281474976710656):eM (ba w)=some (((cg w).1,(cg w).2,()),()):=by
 rw[Ej hw]
 by_cases h:bQ (lz w).1=true∧ji (lz w)=w
 ·have:=Kf h.1
  rw[h.2] at this
  rw[P5 h,R5 h,this]
 ·rw[P4 h,S3 h]
  cases h2:(cg w).2 with
  | false=>rw[MT h2]
  | true =>
   obtain⟨k1,k2⟩:=MS h2
   refine S0 ?_ h
   have:=MR k1
   rw[k2] at this
   rw[this]
   exact⟨k1,k2⟩
def fP:ae:=[84,82,85,69]
def gm:ae:=[70,65,76,83,69]
def dy (w:ae):Int:=if cQ 5=ba w then 5 else if cQ 4=ba w then 4 else if cQ 3=ba w then 3 else if cQ 2=ba w then 2 else if cQ 1=ba w then 1 else 0
theorem MU {w:ae} (h:dy w≠0):cQ (dy w)=ba w∧1≤dy w∧dy w≤5:=by
 unfold dy at h ⊢
 split
 ·exact⟨‹_›,by decide,by decide⟩
 ·split
  ·exact⟨‹_›,by decide,by decide⟩
  ·split
   ·exact⟨‹_›,by decide,by decide⟩
   ·split
    ·exact⟨‹_›,by decide,by decide⟩
    ·split
     ·exact⟨‹_›,by decide,by decide⟩
     ·rename_i h1 h2 h3 h4 h5
      simp[h1,h2,h3,h4,h5] at h
theorem BU : ∀ n:Fin 6,1≤n.val→dy (lb (cQ (n.val:Int)))=(n.val:Int):=by decide +kernel
def t8 (w:ae):aD :=
 if w=[] then v0 else
 if w.head? = some 39 then vT (ba (w.drop 1)) else
 if w=fP then vB true else
 if w=gm then vB false else
 if w.head? = some 35 then(4,dy w,eS,()) else
 if w.head? = some 45 then(if cf (w.drop 1) 16=true∧bh 0 (w.drop 1)≠0 then vN (-((bh 0 (w.drop 1):Nat):Int)) else(9,0,eS,())) else
 if cf w 16=true then vN ((bh 0 w:Nat):Int) else(9,0,eS,())
def bH (w:ae):aD×Bool:=if bb (t8 w)=true then(t8 w,true) else(v0,false)
theorem GN {v:aD} (h:v.2.2.1.size≤9223372036854775807) {a b:Int} {c:P0}:aE a b c v.1 v.2.1 v.2.2.1=some ((if bb v=true then v else v0,bb v,()),()):=by
 rw[wI,show(v.1,v.2.1,v.2.2.1,())=v from rfl,jE h]
 simp only[P1]
 cases bb v <;> rfl
theorem pD {w:ae} {n:Int} (h0:0≤n) (h1:n≤5) {a b e N:Int} {c f:P0}:dw (ba w) n a b c e N f=dw (ba w) (n+1) a b c e (if cQ n=ba w then n else N) f:=by
 rw[nE,ay h1,tl h0 h1]
 simp only[P1,kw,Q0]
 rw[wr (by omega) (by omega)]
 split <;> rfl
theorem NX {w:ae}:dw (ba w) 1 0 0 eS 4 0 eS=some ((if bb (4,dy w,eS,())=true then(4,dy w,eS,()) else v0,bb (4,dy w,eS,()),()),()):=by
 rw[pD (by decide) (by decide),pD (by decide) (by decide),pD (by decide) (by decide),pD (by decide) (by decide),pD (by decide) (by decide),nE,aq (by decide)]
 exact GN (v:=(4,dy w,eS,())) (by show eS.size≤_; decide)
theorem LL {w:ae} (hw:w.length≤9223372036854775807) {y:UInt8} {l:ae} (h:w=y :: l) :
  (if((y.toNat:Int) == 45)=true then(gc (ba w) 1 fun y5=>((cq y5 16).bind fun z1=>(if(!z1.1.2.1)=true then(some (((0,0,(⟨#[]⟩:P0),()),false,()),(()))) else(if((y.toNat:Int) == 45)=true then(if(z1.1.1 == 0)=true then(some (((0,0,(⟨#[]⟩:P0),()),false,()),(()))) else(if((y.toNat:Int) == 45)=true then(aE 0 0 (⟨#[]⟩:P0) 1 (ci_ cj_ (0 - z1.1.1)) (⟨#[]⟩:P0)) else(aE 0 0 (⟨#[]⟩:P0) 1 z1.1.1 (⟨#[]⟩:P0)))) else(if((y.toNat:Int) == 45)=true then(aE 0 0 (⟨#[]⟩:P0) 1 (ci_ cj_ (0 - z1.1.1)) (⟨#[]⟩:P0)) else(aE 0 0 (⟨#[]⟩:P0) 1 z1.1.1 (⟨#[]⟩:P0)))))))
   else((cq (ba w) 16).bind fun z2=>(if(!z2.1.2.1)=true then(some (((0,0,(⟨#[]⟩:P0),()),false,()),(()))) else(if((y.toNat:Int) == 45)=true then(if(z2.1.1 == 0)=true then(some (((0,0,(⟨#[]⟩:P0),()),false,()),(()))) else(if((y.toNat:Int) == 45)=true then(aE 0 0 (⟨#[]⟩:P0) 1 (ci_ cj_ (0 - z2.1.1)) (⟨#[]⟩:P0)) else(aE 0 0 (⟨#[]⟩:P0) 1 z2.1.1 (⟨#[]⟩:P0)))) else(if((y.toNat:Int) == 45)=true then(aE 0 0 (⟨#[]⟩:P0) 1 (ci_ cj_ (0 - z2.1.1)) (⟨#[]⟩:P0)) else(aE 0 0 (⟨#[]⟩:P0) 1 z2.1.1 (⟨#[]⟩:P0)))))))
   = (let v:aD:=if w.head? = some 45 then(if cf (w.drop 1) 16=true∧bh 0 (w.drop 1)≠0 then vN (-((bh 0 (w.drop 1):Nat):Int)) else(9,0,eS,())) else if cf w 16=true then vN ((bh 0 w:Nat):Int) else(9,0,eS,())
    some ((if bb v=true then v else v0,bb v,()),())):=by
 have e9:bb (9,0,eS,())=false:=by decide
 have hint : ∀ x:ae,cq (ba x) 16=_:=fun x=>vx x (m:=16) (by decide)
 have hrange : ∀ x:ae,cf x 16=true→bh 0 x < 10 ^ 16:=by
  intro x hx
  unfold cf gl at hx
  simp only[P8,Q0] at hx
  have:=wt x 0 hx.1.1.1
  exact U7 (by simpa using this) (Nat.pow_le_pow_right (by decide) hx.2)
 subst h
 by_cases hy:y=45
 ·subst hy
  have e:(((45:UInt8).toNat:Int) == 45)=true:=rfl
  simp only[e,S2,W9,U1,W3]
  rw[show(1:Int)=((1:Nat):Int) from rfl,eK (by simp)]
  simp only[U1,W3,hint,P1]
  cases hr:cf l 16 with
  | false=>simp[e9]; rfl
  | true =>
   have:=hrange l hr
   by_cases h0:bh 0 l=0
   ·simp[h0,e9]; rfl
   ·have h0' : ¬(((bh 0 l:Nat):Int) == 0)=true:=by simp only[T7]; omega
    simp only[S1,P9,R0,S2,h0',ne_eq,h0,not_false_eq_true,and_self]
    rw[wr (by omega) (by omega),show(0:Int) - ((bh 0 l:Nat):Int) = -((bh 0 l:Nat):Int) by omega]
    exact GN (v:=vN _) (by show eS.size≤_; decide)
 ·have e : ¬((y.toNat:Int) == 45)=true:=by
   simp only[T7]
   intro e
   apply hy
   apply UInt8.toNat_inj.1
   show y.toNat=45
   omega
  have e2 : ¬(some y=some (45:UInt8)):=by simpa using hy
  simp only[e,R0,W9,e2,hint,P1]
  cases hr:cf (y :: l) 16 with
  | false=>simp[e9]; rfl
  | true =>
   have:=hrange _ hr
   simp only[S1,P9,R0,S2]
   exact GN (v:=vN _) (by show eS.size≤_; decide)
theorem ua {w:ae} (hw:w.length≤9223372036854775807):nO (ba w)=some (((bH w).1,(bH w).2,()),()):=by
 have gu : ∀ v:aD,t8 w=v→some ((if bb v=true then v else v0,bb v,()),())=(some (((bH w).1,(bH w).2,()),()):Option ((aD×Bool×Unit)×Unit)):=by
  intro v hv
  unfold bH
  rw[hv]
  cases bb v <;> rfl
 rw[Ct]
 have e0:(P2 (ba w) == P2 (⟨#[]⟩:P0))=decide (w=[]):=cY (b:=[])
 have e1:(P2 (ba w) == P2 (⟨#[84,82,85,69]⟩:P0))=decide (w=fP):=cY (b:=fP)
 have e2:(P2 (ba w) == P2 (⟨#[70,65,76,83,69]⟩:P0))=decide (w=gm):=cY (b:=gm)
 rw[e0,e1,e2]
 cases w with
 | nil =>
  rw[ay rfl]
  exact gu v0 rfl
 | cons y l =>
  rw[aq (by simp)]
  simp only[pA]
  rw[AU y 39 (n:=39) rfl,AU y 35 (n:=35) rfl]
  have hv:=t8.eq_def (y :: l)
  rw[P4 (by simp)] at hv
  by_cases h39:y=39
  ·rw[ay h39,show(1:Int)=((1:Nat):Int) from rfl,eK (by simp)]
   rw[P5 (by rw[h39]; rfl)] at hv
   rw[Q1] at hw
   exact(GN (v:=vT (ba ((y :: l).drop 1))) (by show(ba _).size≤_; rw[aJ]; simp; omega)).trans (gu _ hv)
  ·rw[aq h39]
   rw[P4 (by simpa using h39)] at hv
   by_cases ht:(y :: l)=fP
   ·rw[P5 ht] at hv
    rw[ay ht,ay ht,ay ht]
    exact(GN (v:=vB true) (by decide)).trans (gu _ hv)
   ·rw[P4 ht] at hv
    rw[aq ht]
    by_cases hf:(y :: l)=gm
    ·rw[P5 hf] at hv
     rw[ay hf,aq ht]
     exact(GN (v:=vB false) (by decide)).trans (gu _ hv)
    ·rw[P4 hf] at hv
     rw[aq hf]
     by_cases h35:y=35
     ·rw[ay h35]
      rw[P5 (by rw[h35]; rfl)] at hv
      exact NX.trans (gu _ hv)
     ·rw[aq h35]
      rw[P4 (by simpa using h35)] at hv
      exact(LL hw rfl).trans (gu _ hv)
theorem vA {n:Int} (h:n < 0):fm n=ba (45 :: R6 (-n).toNat):=by
 rw[vp h,show -n=((-n).toNat:Int) by omega,l8,show(⟨#[45]⟩:P0)=ba [45] from rfl,mX]
 congr 2
theorem El {u:Nat}:R6 u≠[]∧(R6 u).head? ≠ some 39∧(R6 u).head? ≠ some 35∧(R6 u).head? ≠ some 45∧R6 u≠fP∧R6 u≠gm:=by
 obtain⟨y,l,hy,hd⟩:=zQ u
 rw[hy]
 have hn : ∀ c:UInt8,cR c=false→y≠c:=by
  rintro c hc rfl
  rw[hd] at hc
  cases hc
 refine⟨by simp,?_,?_,?_,?_,?_⟩
 ·simpa using hn 39 (by decide)
 ·simpa using hn 35 (by decide)
 ·simpa using hn 45 (by decide)
 ·intro e
  exact hn 84 (by decide) (be_ e).1
 ·intro e
  exact hn 70 (by decide) (be_ e).1
theorem It {u:Nat} (h:u≤1000000000000000):(R6 u).length≤16:=zE 15 u (by omega)
theorem MV {v:aD} (h:bb v=true) (k:v.1≠2):v.2.2.1=eS:=by
 unfold bb at h
 rw[P4 k] at h
 simp only[P8,Q0] at h
 exact h.1
theorem MW {v:aD} (h:bb v=true) (k:v.1=0):v.2.1=0:=by
 unfold bb at h
 rw[P4 (by omega),P5 k] at h
 simp only[P8,Q0] at h
 exact h.2
theorem MX {v:aD} (h:bb v=true) (k:v.1=2):v.2.1=0:=by
 unfold bb at h
 rw[P5 k] at h
 simp only[P8,Q0] at h
 exact h.1
theorem qL {v:aD} (h:bb v=true):v=v0∨(∃ n,v=vN n ∧ -1000000000000000≤n∧n≤1000000000000000)∨(∃ s,v=vT s)∨(∃ b,v=vB b) ∨ ∃ n:Fin 6,v=vE (n.val:Int)∧1≤n.val:=by
 obtain⟨k,n,s,u⟩:=v
 have hS:=fun hk=>MV h hk
 rcases Il h with hk | hk | hk | hk | hk <;> simp only at hk <;> subst hk
 ·have h0:=MW h rfl
  have h1:=hS (by show(_:Int)≠2; omega)
  simp only at h0 h1
  subst h0; subst h1
  exact .inl rfl
 ·have h0:=wn h rfl
  have h1:=hS (by show(_:Int)≠2; omega)
  simp only at h0 h1
  subst h1
  exact .inr (.inl ⟨n,rfl,h0.1,h0.2⟩)
 ·have h0:=MX h rfl
  simp only at h0
  subst h0
  exact .inr (.inr (.inl ⟨s,rfl⟩))
 ·have h0:=GI h rfl
  have h1:=hS (by show(_:Int)≠2; omega)
  simp only at h0 h1
  subst h1
  refine .inr (.inr (.inr (.inl ⟨decide (n=1),?_⟩)))
  have:n=0∨n=1:=by omega
  rcases this with rfl | rfl <;> rfl
 ·have h0:=wo h rfl
  have h1:=hS (by show(_:Int)≠2; omega)
  simp only at h0 h1
  subst h1
  refine .inr (.inr (.inr (.inr ⟨⟨n.toNat,by omega⟩,?_,by simp; omega⟩)))
  show _=vE ((n.toNat:Nat):Int)
  rw[X1 (by omega)]
  rfl
theorem LM {v:aD} (h:bb v=true):t8 (lb (dh v))=v:=by
 rcases qL h with rfl | ⟨n,rfl,h0,h1⟩ | ⟨s,rfl⟩ | ⟨b,rfl⟩ | ⟨n,rfl,h0⟩
 ·rfl
 ·have e:dh (vN n)=fm n:=rfl
  rw[e]
  by_cases hn:n < 0
  ·rw[vA hn,dc]
   have hr:cf (R6 (-n).toNat) 16=true:=vy (It (by omega))
   unfold t8
   simp only[W9,U1,W3,hr,pB]
   rw[P4 (by simp),P4 (by decide),P4 (by unfold fP; simp),P4 (by unfold gm; simp),P4 (by decide),P5 trivial,P5 ⟨trivial,by omega⟩]
   congr 1
   omega
  ·rw[show n=(n.toNat:Int) by omega,l8,dc]
   have hr:cf (R6 n.toNat) 16=true:=vy (It (by omega))
   obtain⟨d1,d2,d3,d4,d5,d6⟩:=El (u:=n.toNat)
   unfold t8
   rw[P4 d1,P4 d2,P4 d5,P4 d6,P4 d3,P4 d4,P5 hr,pB]
 ·have e:lb (dh (vT s))=39 :: lb s:=by
   show lb ((⟨#[39]⟩:P0)++s)=_
   rw[←ic s,show(⟨#[39]⟩:P0)=ba [39] from rfl,mX,dc]
   simp
  rw[e]
  unfold t8
  rw[P4 (by simp),P5 (by rfl)]
  simp only[U1,W3,ic]
 ·cases b <;> rfl
 ·have e:lb (dh (vE (n.val:Int)))=lb (cQ (n.val:Int)):=rfl
  rw[e]
  have h1 : ∀ n:Fin 6,1≤n.val→lb (cQ (n.val:Int))≠[]∧(lb (cQ (n.val:Int))).head? = some 35∧lb (cQ (n.val:Int))≠fP∧lb (cQ (n.val:Int))≠gm:=by decide +kernel
  obtain⟨a1,a2,a3,a4⟩:=h1 n h0
  unfold t8
  rw[P4 a1,P4 (by rw[a2]; decide),P4 a3,P4 a4,P5 a2,BU n h0]
  rfl
theorem Iu {v:aD} (h:bb v=true):bH (lb (dh v))=(v,true):=by
 unfold bH
 rw[LM h,P5 h]
theorem NY {w:ae} (h:bb (t8 w)=true):dh (t8 w)=ba w:=by
 unfold t8 at h ⊢
 split
 ·rename_i hw
  rw[hw]
  rfl
 ·rename_i hw
  rw[P4 hw] at h
  split
  ·rename_i h39
   cases w with
   | nil=>cases h39
   | cons y l =>
    simp only[W9,R8] at h39
    subst h39
    show(⟨#[39]⟩:P0)++ba l=_
    rw[show(⟨#[39]⟩:P0)=ba [39] from rfl,mX]
    rfl
  ·rename_i h39
   rw[P4 h39] at h
   split
   ·rename_i ht
    rw[ht]
    rfl
   ·rename_i ht
    rw[P4 ht] at h
    split
    ·rename_i hf
     rw[hf]
     rfl
    ·rename_i hf
     rw[P4 hf] at h
     split
     ·rename_i h35
      rw[P5 h35] at h
      have:=wo h rfl
      simp only at this
      exact(MU (by omega)).1
     ·rename_i h35
      rw[P4 h35] at h
      have e9:bb (9,0,eS,())=false:=by decide
      split
      ·rename_i h45
       rw[P5 h45] at h
       split
       ·rename_i hc
        cases w with
        | nil=>cases h45
        | cons y l =>
         simp only[W9,R8] at h45
         subst h45
         simp only[U1,W3] at hc ⊢
         show fm (-((bh 0 l:Nat):Int))=_
         rw[vA (by omega),show(- -((bh 0 l:Nat):Int)).toNat=bh 0 l by omega,(xT hc.1).1]
       ·rename_i hc
        rw[P4 hc,e9] at h
        cases h
      ·rename_i h45
       rw[P4 h45] at h
       split
       ·rename_i hc
        show fm ((bh 0 w:Nat):Int)=_
        rw[l8,(xT hc).1]
       ·rename_i hc
        rw[P4 hc,e9] at h
        cases h
theorem pE {w:ae} (h:(bH w).2=true):bb (bH w).1=true∧dh (bH w).1=ba w:=by
 unfold bH at h ⊢
 split at h
 ·rename_i hc
  rw[P5 hc]
  exact⟨hc,NY hc⟩
 ·cases h
theorem LN {w:ae} (h:(bH w).2=false):bH w=(v0,false):=by
 unfold bH at h ⊢
 split at h
 ·cases h
 ·rename_i hc
  rw[P4 hc]
end Go.Proofs.YtfffplonjaigkaaGreatDoor.Abs
