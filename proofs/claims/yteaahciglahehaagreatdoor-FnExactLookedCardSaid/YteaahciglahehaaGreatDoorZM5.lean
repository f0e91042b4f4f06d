/- Values: products, texts, order. -/
import Derived.Test.YteaahciglahehaaGreatDoorZM4
set_option linter.unusedVariables false
set_option linter.unusedSimpArgs false
set_option linter.unusedSectionVars false
namespace Go.Proofs.YteaahciglahehaaGreatDoor.Abs
open Go
def Tg (x y:Int):ab:=if(x*y).natAbs≤1000000000000000 then vN (x*y) else vE 4
def I8:=ry Tg
theorem Bu {p q:Int} (hq:0 < q):Int.tdiv 1000000000000000 q < p ↔ ¬p*q≤1000000000000000:=by
 rw[Int.tdiv_eq_ediv_of_nonneg (by decide),←Int.not_le,Int.le_ediv_iff_mul_le hq]
theorem ZD {q:Int} (hq:0 < q):IntKind.i64.wrap (Int.tdiv 1000000000000000 q)=Int.tdiv 1000000000000000 q:=by
 have:=Bt (x:=1000000000000000) (y:=q) (by omega) (by omega)
 exact wr (by omega) (by omega)
theorem Rc {x y:Int} (h:(x*y).natAbs≤1000000000000000):bnd (IntKind.i64.wrap (x*y))=vN (x*y):=by
 rw[wr (by omega) (by omega)]
 unfold bnd
 rw[if_pos (bw.2 (by omega))]
theorem Rd (x y:Int):(x.natAbs:Int)*(y.natAbs:Int)=((x*y).natAbs:Int):=by rw[Int.natAbs_mul]; simp
section
variable {a b:ab} (ha:a.2.2.1.size≤9223372036854775807) (hb:b.2.2.1.size≤9223372036854775807)
include ha hb
theorem Vi:MZ a b=some ((I8 a b,()),()):=by
 rw[U7]
 unfold I8 ry
 simp only[xQ ha hb,kt,dA,Option.bind_some]
 cases ia:cH a
 ·have:=dk a
  simp[this]
 ·cases ib:cH b
  ·have:=dk b
   simp[this]
  ·have h1:=cu ia
   have h2:=cu ib
   generalize a.2.1=x at h1
   generalize b.2.1=y at h2
   unfold Tg
   by_cases hx:x=0
   ·simp[hx,v0,bnd,cg]
   by_cases hy:y=0
   ·simp[hx,hy,v0,bnd,cg]
   have hm:=Rd x y
   have w1:IntKind.i64.wrap (0 - x) = - x:=by rw[wr (by omega) (by omega)]; omega
   have w2:IntKind.i64.wrap (0 - y) = - y:=by rw[wr (by omega) (by omega)]; omega
   have aO : ∀ p q:Int,p=(x.natAbs:Int)→q=(y.natAbs:Int)→(nz q (if decide (p > IntKind.i64.wrap (Int.tdiv 1000000000000000 q))=true then some ((vE 4,()),()) else some ((bnd (IntKind.i64.wrap (x*y)),()),())))=some ((if(x*y).natAbs≤1000000000000000 then vN (x*y) else vE 4,()),()):=by
    intro p q hp hq
    have hq0:0 < q:=by omega
    rw[Hk (by omega),ZD hq0]
    by_cases hc:(x*y).natAbs≤1000000000000000
    ·rw[aA (by rw[gt_iff_lt,Bu hq0,hp,hq,hm]; omega),if_pos hc,Rc hc]
    ·rw[aB (by rw[gt_iff_lt,Bu hq0,hp,hq,hm]; omega),if_neg hc]
   by_cases nx:x < 0 <;> by_cases ny:y < 0 <;> simp only[v0,hx,hy,nx,ny,pf,w1,w2,if_true,if_false,decide_true,decide_false,Bool.false_eq_true,bne_self_eq_false,Option.bind_some] <;> refine aO _ _ ?_ ?_ <;> omega
theorem Vj:M4 a b=some ((I8 a b,()),()):=by
 rw[Ve,zT]
 unfold I8 ry
 simp only[fm ha,fm hb,fY ha,fY hb,P9,sR,il,Option.bind_some]
 cases ia:cH a
 ·simp
 ·cases ib:cH b
  ·simp
  ·have h1:=cu ia
   have h2:=cu ib
   generalize a.2.1=x at h1
   generalize b.2.1=y at h2
   unfold Tg
   have hm:=Rd x y
   have w1:(if x < IntKind.i64.wrap (0 - x) then IntKind.i64.wrap (0 - x) else x)=(x.natAbs:Int):=by
    rw[wr (by omega) (by omega)]
    split <;> omega
   have w2:(if y < IntKind.i64.wrap (0 - y) then IntKind.i64.wrap (0 - y) else y)=(y.natAbs:Int):=by
    rw[wr (by omega) (by omega)]
    split <;> omega
   simp only[w1,w2,Bool.not_true,Bool.false_eq_true,if_false,if_true]
   by_cases hy:y=0
   ·simp[hy,bnd,cg,wr (n:=0) (by decide) (by decide)]
   ·have hq0:0 < (y.natAbs:Int):=by omega
    rw[if_pos (by simpa using hy),Hk (by omega),ZD hq0]
    by_cases hc:(x*y).natAbs≤1000000000000000
    ·rw[aA (by rw[gt_iff_lt,Bu hq0,hm]; omega),if_pos hc,Rc hc]
     rfl
    ·rw[aB (by rw[gt_iff_lt,Bu hq0,hm]; omega),if_neg hc]
     rfl
end
theorem E7 {a:ab} (ha:a.2.2.1.size≤9223372036854775807):A7 a=some ((F3 a,()),()):=by
 rw[PS]
 unfold F3 Bs ry
 have h0:cH v0=true:=by decide
 simp only[Dh ha,kt,Option.bind_some,h0,if_true]
 cases ia:cH a
 ·have:=dk a
  simp[this]
 ·have h1:=cu ia
  simp[v0,wr (n := -a.2.1) (by omega) (by omega)]
theorem Qa {a:ab} (ha:a.2.2.1.size≤9223372036854775807):FS a=some ((F3 a,()),()):=by
 rw[P3,show((0,0,({data := #[]}:ByteArray),()):ab)=v0 from rfl,NC (by decide) ha]
 rfl
theorem wr8 {n:Int} (h0:0≤n) (h1:n≤255):IntKind.u8.wrap n=n:=by
 simp only[IntKind.wrap,IntKind.bits,IntKind.signed]
 simp
 omega
theorem HI : ∀(k u:Nat),u < 10 ^ (k+1)→(Lib.decDigits u).length≤k+1
 | 0,u,h=>by
  have h:u < 10:=by simpa using h
  rw[Lib.decDigits,dif_pos h]
  simp
 | k+1,u,h=>by
  rw[Lib.decDigits]
  split
  ·simp
  ·have:=HI k (u / 10) (by rw[Nat.pow_succ] at h; exact Nat.div_lt_of_lt_mul (by omega))
   rw[List.length_append]
   simp only[List.length_singleton]
   omega
theorem uS {x:Nat} (h:x < 10):strOfNums ([IntKind.u8.wrap (IntKind.i64.wrap (48+(x:Int)))]:List Int)=⟨#[UInt8.ofNat (48+x)]⟩:=by
 rw[wr (by omega) (by omega),wr8 (by omega) (by omega)]
 unfold strOfNums
 simp only[List.map_cons,List.map_nil]
 congr 3
theorem An {a b:ByteArray} (h:a.data.toList=b.data.toList):a=b:=by
 cases a; cases b
 congr 1
 exact Array.toList_inj.1 h
theorem Di : ∀(n u:Nat) (acc:ByteArray),u≤n→u≤9223372036854775807→acc.size+n≤9223372036854775806→tk (u:Int) acc=some ((⟨(Lib.decDigits u).toArray⟩++acc,()),()):=by
 intro n
 induction n with
 | zero =>
  intro u acc h1 h2 h3
  have:u=0:=by omega
  subst this
  rw[wc,aA (by decide),show((0:Nat):Int)=((0:Nat):Int) from rfl,uS (x:=0) (by decide),fy (by simp only[ByteArray.size]; simp; have:acc.data.size=acc.size:=rfl; omega)]
  rw[Lib.decDigits,dif_pos (by decide)]
 | succ n ih =>
  intro u acc h1 h2 h3
  rw[wc]
  have hs : ∀ c:UInt8,(⟨#[c]⟩:ByteArray).size=1:=fun _=>rfl
  by_cases h:u < 10
  ·rw[aA (by omega),uS h,fy (by rw[hs]; omega)]
   rw[Lib.decDigits,dif_pos h]
  ·have e1:Int.tmod (u:Int) 10=((u % 10:Nat):Int):=by
    rw[Int.tmod_eq_emod_of_nonneg (by omega)]
    omega
   have e2:Int.tdiv (u:Int) 10=((u / 10:Nat):Int):=by
    rw[Int.tdiv_eq_ediv_of_nonneg (by omega)]
    omega
   rw[aB (by omega),e1,e2,uS (Nat.mod_lt _ (by decide)),fy (by rw[hs]; omega),wr (by omega) (by omega),ih (u / 10) _ (by omega) (by omega) (by rw[size_append,hs]; omega)]
   conv=>rhs; rw[Lib.decDigits,dif_neg h]
   congr 3
   apply An
   simp
theorem pL (u:Nat):cP (u:Int)=⟨(Lib.decDigits u).toArray⟩:=by
 unfold cP Lib.itoa
 rw[if_neg (by omega)]
 simp
theorem xR {n:Int} (h:n < 0):cP n=⟨#[45]⟩++cP (-n):=by
 unfold cP Lib.itoa
 rw[if_pos h,if_neg (by omega)]
 apply An
 simp
 congr 1
 omega
theorem I9 {u:Nat} (h:u≤9223372036854775807):(⟨(Lib.decDigits u).toArray⟩:ByteArray).size≤19:=by
 have:=HI 18 u (by omega)
 simpa[ByteArray.size] using this
theorem uT {n:Int} (h0 : -9223372036854775807≤n) (h1:n≤9223372036854775807):(cP n).size≤20:=by
 by_cases h:n < 0
 ·rw[xR h,size_append,show -n=((-n).toNat:Int) by omega,pL]
  have:=I9 (u:=(-n).toNat) (by omega)
  have h1:(⟨#[45]⟩:ByteArray).size=1:=rfl
  omega
 ·rw[show n=(n.toNat:Int) by omega,pL]
  have:=I9 (u:=n.toNat) (by omega)
  omega
theorem HJ {u:Nat} (h:u≤9223372036854775807):nX (u:Int)=some ((cP (u:Int),()),()):=by
 have h19:=I9 h
 rw[KH,aA (by omega),pL]
 have h2 : ∀ acc:ByteArray,acc.size=0→tk (u:Int) acc=some ((⟨(Lib.decDigits u).toArray⟩++acc,()),()):=by
  intro acc ha
  by_cases hu:u≤9223372036854775806
  ·exact Di u u acc (Nat.le_refl _) h (by omega)
  ·have hu:u=9223372036854775807:=by omega
   subst hu
   have hs : ∀ c:UInt8,(⟨#[c]⟩:ByteArray).size=1:=fun _=>rfl
   have e1:Int.tmod ((9223372036854775807:Nat):Int) 10=((7:Nat):Int):=by decide
   have e2:Int.tdiv ((9223372036854775807:Nat):Int) 10=((922337203685477580:Nat):Int):=by decide
   rw[wc,aB (by decide),e1,e2,uS (by decide),fy (by rw[hs]; omega),wr (by omega) (by omega),Di 922337203685477580 _ _ (by omega) (by omega) (by rw[size_append,hs]; omega)]
   conv=>rhs; rw[Lib.decDigits,dif_neg (by decide)]
   congr 3
   apply An
   simp
 rw[h2 _ rfl]
 congr 3
 apply An
 simp
theorem KI {n:Int} (h0 : -9223372036854775807≤n) (h1:n≤9223372036854775807):nX n=some ((cP n,()),()):=by
 by_cases h:n < 0
 ·have hz:=uT (n := -n) (by omega) (by omega)
  have h45:(⟨#[45]⟩:ByteArray).size=1:=rfl
  rw[KH,aB h,wr (by omega) (by omega),show(0 - n:Int)=((-n).toNat:Int) by omega,HJ (by omega),show(((-n).toNat:Nat):Int) = -n by omega]
  simp only[Option.bind_some]
  rw[fy (by omega),←xR h]
 ·rw[show n=(n.toNat:Int) by omega]
  exact HJ (by omega)
theorem yB {n:Int} (h0 : -9223372036854775808≤n) (h1:n≤9223372036854775807):kF n=some ((cP n,()),()):=by
 rw[PU,Bk]
 show(if(10:Int)=10∧_∧_ then _ else _:Option _).bind _=_
 rw[if_pos ⟨rfl,h0,h1⟩]
 rfl
def Xc:List ByteArray:=[(⟨#[]⟩:ByteArray),(⟨#[35,68,73,86,33]⟩:ByteArray),(⟨#[35,84,89,80,69,33]⟩:ByteArray),(⟨#[35,82,69,70,33]⟩:ByteArray),(⟨#[35,79,86,69,82,33]⟩:ByteArray),(⟨#[35,67,89,67,76,69,33]⟩:ByteArray)]
def cY (n:Int):ByteArray:=Xc.getD n.toNat eS
theorem uU {n:Int} (h0:0≤n) (h1:n≤5):mY n=some ((cY n,()),()):=by
 rw[Sy,bC h0 (by show n < 6; omega)]
 rfl
theorem oG {n:Int} (h0:0≤n) (h1:n≤5):g9 n=some ((cY n,()),()):=by
 rw[Lz,bC h0 (by show n < 6; omega)]
 rfl
def xS (n:Int):ByteArray:=if n=1 then⟨#[84,82,85,69]⟩ else⟨#[70,65,76,83,69]⟩
theorem Th (n:Int):IE n=some ((xS n,()),()):=by
 rw[SC]
 unfold xS
 by_cases h:n=1 <;> simp[h]
def bG (v:ab):ByteArray:=if v.1=1 then cP v.2.1 else if v.1=2 then(⟨#[39]⟩:ByteArray)++v.2.2.1 else if v.1=3 then xS v.2.1 else if v.1=4 then cY v.2.1 else eS
theorem rT {v:ab} (h:ax v=true) (k:v.1=1) : -1000000000000000≤v.2.1∧v.2.1≤1000000000000000:=by
 unfold ax at h
 rw[if_neg (by omega),if_neg (by omega),if_pos k] at h
 simp only[Bool.and_eq_true,decide_eq_true_eq] at h
 exact bw.1 h.2
theorem Ao {v:ab} (h:ax v=true) (k:v.1=3):0≤v.2.1∧v.2.1≤1:=by
 unfold ax at h
 rw[if_neg (by omega),if_neg (by omega),if_neg (by omega),if_pos k] at h
 simp only[Bool.and_eq_true,decide_eq_true_eq] at h
 exact bw.1 h.2
theorem vb {v:ab} (h:ax v=true) (k:v.1=4):1≤v.2.1∧v.2.1≤5:=by
 unfold ax at h
 rw[if_neg (by omega),if_neg (by omega),if_neg (by omega),if_neg (by omega),if_pos k] at h
 simp only[Bool.and_eq_true,decide_eq_true_eq] at h
 exact bw.1 h.2
theorem uV {v:ab} (h:ax v=true):v.1=0∨v.1=1∨v.1=2∨v.1=3∨v.1=4:=by
 unfold ax at h
 split at h
 ·omega
 ·simp only[Bool.and_eq_true] at h
  have h:=h.2
  split at h
  ·omega
  ·split at h
   ·omega
   ·split at h
    ·omega
    ·split at h
     ·omega
     ·cases h
theorem Vk (n:Int):(cY n).size≤10:=by
 have h : ∀ i:Nat,i < 6→(Xc.getD i eS).size≤10:=by decide
 unfold cY
 by_cases hn:n.toNat < 6
 ·exact h _ hn
 ·rw[List.getD_eq_getElem?_getD,List.getElem?_eq_none (by show 6≤n.toNat; omega)]
  decide
theorem KJ {v:ab} (h:ax v=true):(bG v).size≤201:=by
 have hs:=dD h
 unfold bG
 split
 ·have:=rT h ‹_›
  exact Nat.le_trans (uT (by omega) (by omega)) (by decide)
 ·split
  ·rw[size_append]
   have:(⟨#[39]⟩:ByteArray).size=1:=rfl
   omega
  ·split
   ·unfold xS
    split <;> decide
   ·split
    ·exact Nat.le_trans (Vk _) (by decide)
    ·decide
theorem Ti {β:Type} {s:ByteArray} {f:ByteArray→Option β} (h:s.size≤9223372036854775806):cats (⟨#[39]⟩:ByteArray) s f=f ((⟨#[39]⟩:ByteArray)++s):=fy (by
 have:(⟨#[39]⟩:ByteArray).size=1:=rfl
 omega)
theorem eI {v:ab} (hs:v.2.2.1.size≤9223372036854775807):dX v=some ((if ax v=true then bG v else eS,()),()):=by
 rw[Lv,fd hs,Option.bind_some]
 unfold bG
 cases h:ax v
 ·rfl
 ·have hz:=dD h
  simp only[Bool.not_true,Bool.false_eq_true,if_false,if_true,beq_iff_eq]
  by_cases h1:v.1=1
  ·have:=rT h h1
   simp[h1,KI (n:=v.2.1) (by omega) (by omega)]
  by_cases h2:v.1=2
  ·simp only[h2,if_true,Ti (s:=v.2.2.1) (by omega)]
   rfl
  by_cases h3:v.1=3
  ·simp[h3,Th]
  by_cases h4:v.1=4
  ·have:=vb h h4
   simp[h4,uU (n:=v.2.1) (by omega) (by omega)]
  simp[h1,h2,h3,h4]
theorem tS {v:ab} (h:ax v=true):fh v=some ((bG v,()),()):=by
 rw[LA]
 unfold bG
 have hz:=dD h
 simp only[beq_iff_eq]
 by_cases h1:v.1=1
 ·have:=rT h h1
  simp[h1,yB (n:=v.2.1) (by omega) (by omega)]
 by_cases h2:v.1=2
 ·simp only[h2,if_true,Ti (s:=v.2.2.1) (by omega)]
  rfl
 by_cases h3:v.1=3
 ·have:=Ao h h3
  simp only[h3,if_true]
  rw[if_neg (by decide),if_neg (by decide),if_neg (by decide),if_neg (by decide),bC (by omega) (by show v.2.1 < 2; omega)]
  unfold xS
  by_cases h5:v.2.1=1
  ·rw[h5]
   rfl
  ·rw[show v.2.1=0 by omega]
   rfl
 by_cases h4:v.1=4
 ·have:=vb h h4
  simp[h4,oG (n:=v.2.1) (by omega) (by omega)]
 simp[h1,h2,h3,h4]
theorem Cc {v:ab} (hs:v.2.2.1.size≤9223372036854775807):kH v=some ((if ax v=true then bG v else eS,()),()):=by
 rw[LI,fe hs,Option.bind_some]
 cases h:ax v
 ·rfl
 ·rw[tS h]
  rfl
def nJ (v:ab):Bool:=ax v && !decide (v.1=4)
def ra (v:ab):ByteArray:=if v.1=2 then v.2.2.1 else bG v
theorem wm {v:ab} (h:ax v=true):(ra v).size≤201:=by
 unfold ra
 split
 ·exact Nat.le_trans (dD h) (by decide)
 ·exact KJ h
theorem Bv {v:ab} (hs:v.2.2.1.size≤9223372036854775807) : ∃ t,zH v=some ((t,nJ v,()),())∧(nJ v=true→t=ra v):=by
 rw[S2]
 unfold nJ ra
 simp only[fe hs,Cc hs,Option.bind_some,beq_iff_eq]
 by_cases h2:v.1=2
 ·refine⟨_,by simp[h2]; rfl,fun _=>by simp[h2]⟩
 ·cases h:ax v
  ·exact⟨_,by simp[h2]; rfl,fun h=>by cases h⟩
  ·refine⟨bG v,?_,fun _=>by simp[h2]⟩
   simp only[h2,if_false,if_true,Bool.true_and]
   rfl
theorem Bw {v:ab} (hs:v.2.2.1.size≤9223372036854775807):zD v=some ((if nJ v=true then ra v else eS,if nJ v=true then v0 else gT v,()),()):=by
 rw[SI]
 unfold nJ ra gT
 simp only[fd hs,dA,eI hs,Option.bind_some,beq_iff_eq]
 cases h:ax v
 ·rfl
 ·by_cases h4:v.1=4
  ·simp[h4]
  ·by_cases h2:v.1=2 <;> simp[h2,h4,v0]
theorem vc {v:ab} (h:nJ v=true):ax v=true:=by
 unfold nJ at h
 simp only[Bool.and_eq_true] at h
 exact h.1
def Bx (a b:ab):ab:=if nJ a=true then(if nJ b=true then(if 200 < (ra a).size+(ra b).size then vE 4 else vT (ra a++ra b)) else gT b) else gT a
section
variable {a b:ab} (ha:a.2.2.1.size≤9223372036854775807) (hb:b.2.2.1.size≤9223372036854775807)
include ha hb
theorem Tj:IJ a b=some ((Bx a b,()),()):=by
 rw[SM]
 unfold Bx
 simp only[Bw ha,Bw hb,dA,Option.bind_some,bne_iff_ne,ne_eq]
 cases ia:nJ a
 ·have:=dk a
  simp[this]
 ·cases ib:nJ b
  ·have:=dk b
   simp[this,v0]
  ·have h1:=wm (vc ia)
   have h2:=wm (vc ib)
   simp only[if_true,v0,not_true,if_false]
   rw[wr (by omega) (by omega)]
   by_cases hc:200 < (ra a).size+(ra b).size
   ·rw[aB (by omega),if_pos hc]
   ·rw[aA (by omega),if_neg hc,fy (by omega)]
    rfl
theorem Tk:IL a b=some ((Bx a b,()),()):=by
 rw[S6]
 unfold Bx
 obtain⟨t,e1,e2⟩:=Bv ha
 obtain⟨u,e3,e4⟩:=Bv hb
 simp only[e1,e3,fY ha,fY hb,il,Option.bind_some]
 cases ia:nJ a
 ·simp
 ·cases ib:nJ b
  ·simp
  ·have h1:=wm (vc ia)
   have h2:=wm (vc ib)
   rw[e2 ia,e4 ib]
   simp only[if_true,Bool.not_true,Bool.false_eq_true,if_false]
   rw[wr (by omega) (by omega)]
   by_cases hc:200 < (ra a).size+(ra b).size
   ·rw[aB (by omega),if_pos hc]
   ·rw[aA (by omega),if_neg hc,fy (by omega)]
    rfl
end
def rd (x y:Int):Int:=if x < y then -1 else if y < x then 1 else 0
def ND (x y:ByteArray):Int:=if J1 x y=true then -1 else if x=y then 0 else 1
def NE (a b:ab):Int:=if a.1≠b.1 then rd a.1 b.1 else if a.2.1≠b.2.1 then rd a.2.1 b.2.1 else ND a.2.2.1 b.2.2.1
theorem Tl (p q:Bool):zE p q=some ((if p=true then -1 else if q=true then 1 else 0,()),()):=by
 rw[SO]
 cases p <;> cases q <;> rfl
theorem Vl (a b:ab):M0 a b=some ((NE a b,()),()):=by
 rw[U8]
 unfold NE rd ND
 simp only[Tl,Option.bind_some,bne_iff_ne,decide_eq_true_eq,s4]
 by_cases h1:a.1=b.1
 ·by_cases h2:a.2.1=b.2.1
  ·simp only[h1,h2,ne_eq,not_true,if_false]
   change _=some ((if J1 a.2.2.1 b.2.2.1=true then _ else _,()),())
   change some ((if J1 a.2.2.1 b.2.2.1=true then _ else if(!(J1 a.2.2.1 b.2.2.1 || _))=true then _ else _,()),())=_
   cases J1 a.2.2.1 b.2.2.1
   ·by_cases h3:a.2.2.1=b.2.2.1 <;> simp[h3]
   ·rfl
  ·simp only[h1,h2,ne_eq,not_true,not_false_eq_true,if_false,if_true]
   by_cases h3:a.2.1 < b.2.1
   ·simp[h3]
   ·have h4:b.2.1 < a.2.1:=by omega
    simp[h3,h4]
 ·simp only[h1,ne_eq,not_true,not_false_eq_true,if_true]
  by_cases h3:a.1 < b.1
  ·simp[h3]
  ·have h4:b.1 < a.1:=by omega
   simp[h3,h4]
theorem Dj (x y:Int):ft x y=some ((rd x y,()),()):=by
 rw[Bh,to,to]
 unfold rd
 simp
 by_cases h:x < y
 ·simp[h]
 ·by_cases h2:y < x <;> simp[h,h2]
theorem Vm (x y:ByteArray):me x y=some ((ND x y,()),()):=by
 rw[zU,rp,rp]
 unfold ND
 simp only[s4,decide_true,Bool.not_true,Option.bind_some,Bool.false_eq_true,if_false]
 change (if J1 x y=true then _ else if(!(J1 x y || _))=true then _ else _)=_
 cases J1 x y
 ·by_cases h3:x=y <;> simp[h3]
 ·rfl
theorem NF {l:List Int} (hl:l.length≤100) : ∀(ys pre:List Int),l=pre++ys→oD 0 l (l.length:Int) (pre.length:Int)=some (((ys.find? fun y=>decide (y≠0)).getD 0,()),())
 | [],pre,he=>by
  rw[wd,aA (bj he)]
  rfl
 | y :: ys,pre,he=>by
  rw[wd,aB (bu he),br he,aJ he (by omega),NF hl ys _ (az he)]
  by_cases h:y=0
  ·simp[h]
  ·simp[h]
theorem NG {l:List Int} (hl:l.length≤100):uC l=some (((l.find? fun y=>decide (y≠0)).getD 0,()),()):=by
 rw[Ly]
 exact NF hl l [] rfl
theorem HK {x y:Int}:rd x y=0↔x=y:=by
 unfold rd
 split
 ·omega
 ·split <;> omega
theorem Vn (a b:ab):C3 a b=some ((NE a b,()),()):=by
 rw[Vf]
 simp only[Dj,Vm,Option.bind_some]
 rw[NG (by simp)]
 unfold NE
 by_cases h1:a.1=b.1
 ·have e1:=HK.2 h1
  rw[if_neg (by simp[h1])]
  by_cases h2:a.2.1=b.2.1
  ·have e2:=HK.2 h2
   rw[if_neg (by simp[h2])]
   by_cases h3:ND a.2.2.1 b.2.2.1=0 <;> simp[List.find?,e1,e2,h3]
  ·have e2:rd a.2.1 b.2.1≠0:=fun h=>h2 (HK.1 h)
   rw[if_pos (by simp[h2])]
   simp[List.find?,e1,e2]
 ·have e1:rd a.1 b.1≠0:=fun h=>h1 (HK.1 h)
  rw[if_pos (by simp[h1])]
  simp[List.find?,e1]
def NH (a b:ab):ab:=if a.1=0 then(b.1,a.2.1,a.2.2.1,()) else a
def ZE (op o:Int):Bool:=if op=6 then decide (o=0) else if op=7 then !decide (o=0) else if op=8 then decide (o < 0) else if op=9 then decide (o≤0) else if op=10 then decide (0 < o) else decide (0≤o)
def Bz (op:Int) (a b:ab):ab:=if ax a=true then(if ax b=true then(if cg op 6 11=true then(if a.1=4 then a else if b.1=4 then b else vB (ZE op (NE (NH a b) (NH b a)))) else vE 2) else vE 2) else vE 2
theorem Tm (a b:ab):D8 a b=some ((NH a b,()),()):=by
 rw[SN]
 unfold NH
 by_cases h:a.1=0 <;> simp[h]
theorem aah {op o:Int} (h:cg op 6 11=true):List.getD [(o == 0),(o != 0),decide (o < 0),decide (o≤0),decide (o > 0),decide (o≥0)] (Int.toNat (IntKind.i64.wrap (op - 6))) false=ZE op o:=by
 have:=bw.1 h
 rw[wr (by omega) (by omega)]
 have h6:op=6∨op=7∨op=8∨op=9∨op=10∨op=11:=by omega
 rcases h6 with rfl | rfl | rfl | rfl | rfl | rfl <;> rfl
section
variable {op:Int} {a b:ab} (ha:a.2.2.1.size≤9223372036854775807) (hb:b.2.2.1.size≤9223372036854775807)
include ha hb
theorem Xd:Sg op a b=some ((Bz op a b,()),()):=by
 rw[WZ]
 unfold Bz ZE
 simp only[fd ha,fd hb,dA,jL,Tm,Vl,uR,Option.bind_some,beq_iff_eq]
 cases ax a
 ·rfl
 cases ax b
 ·rfl
 cases cg op 6 11
 ·rfl
 simp only[Bool.not_true,Bool.false_eq_true,if_false,if_true]
 by_cases h1:a.1=4
 ·simp[h1]
 by_cases h2:b.1=4
 ·simp[h1,h2]
 simp only[h1,h2,if_false]
 by_cases o6:op=6
 ·simp[o6,pf]
 by_cases o7:op=7
 ·simp[o7]; rfl
 by_cases o8:op=8
 ·simp[o8]
 by_cases o9:op=9
 ·simp[o9]
 by_cases o10:op=10
 ·simp[o10]
 simp[o6,o7,o8,o9,o10]
theorem Xe:Sk op a b=some ((Bz op a b,()),()):=by
 rw[W7]
 unfold Bz
 simp only[fe ha,fe hb,il,ge,Vn,Option.bind_some,beq_iff_eq]
 cases ax a
 ·rfl
 cases ax b
 ·rfl
 cases hi:cg op 6 11
 ·rfl
 have hio:=bw.1 hi
 simp only[Bool.not_true,Bool.false_eq_true,if_false,if_true]
 by_cases h1:a.1=4
 ·simp[h1]
 by_cases h2:b.1=4
 ·simp[h1,h2]
 have hin : ∀(x1 x2 x3 x4 x5 x6:Bool) (k:Option ((ab×Unit)×Unit)),inb [x1,x2,x3,x4,x5,x6] (IntKind.i64.wrap (op - 6)) k=k:=fun x1 x2 x3 x4 x5 x6 k=>by
  rw[wr (by omega) (by omega)]
  exact bC (by omega) (by show op - 6 < 6; omega)
 simp only[h1,h2,if_false,hin,aah hi,tB,Option.bind_some]
 unfold NH
 by_cases h3:a.1=0
 ·by_cases h4:b.1=0
  ·have eb:((0,b.2.1,b.2.2.1,()):ab)=b:=by rw[←h4]
   simp only[h3,h4,if_true,eb]
  ·simp[h3,h4]
 ·by_cases h4:b.1=0
  ·simp[h3,h4]
  ·simp[h3,h4]
end
abbrev p0:cb:=((0,0,()),false,false,())
abbrev aa.kids (x:aa):List Int:=x.2.2.2.2.2.1
def oq (op k:Int):Bool:=if op=5 then(decide (k=2) || decide (k=3)) else if cg op 1 7=true then cg k 1 10 else if cg op 8 10=true then decide (k=1) else false
def kl (x:aa):Int:=(List.length x.2.2.2.2.2.1:Int)
def dE (x:aa):Bool :=
 if x.1=1 then decide (x.2.1=0) && decide (x.2.2.2.1=p0) && decide (x.2.2.2.2.1=p0) && decide (kl x=0) && ax x.2.2.1 && !decide (x.2.2.1.1=0) && (!decide (x.2.2.1.1=1) || decide (0≤x.2.2.1.2.1))
 else if x.1=2 then decide (x.2.1=0) && decide (x.2.2.1=v0) && decide (x.2.2.2.2.1=p0) && decide (kl x=0) && bS x.2.2.2.1.1
 else if x.1=3 then decide (x.2.1=0) && decide (x.2.2.1=v0) && decide (kl x=0) && q9 (x.2.2.2.1.1,x.2.2.2.2.1.1,())
 else if x.1=4 then decide (x.2.1=0) && decide (x.2.2.1=v0) && decide (x.2.2.2.1=p0) && decide (x.2.2.2.2.1=p0) && decide (kl x=1)
 else if x.1=5 then cg x.2.1 1 11 && decide (x.2.2.1=v0) && decide (x.2.2.2.1=p0) && decide (x.2.2.2.2.1=p0) && decide (kl x=2)
 else if x.1=6 then oq x.2.1 (kl x) && decide (x.2.2.1=v0) && decide (x.2.2.2.1=p0) && decide (x.2.2.2.2.1=p0)
 else false
theorem Xf {a b:cb}:(bp bI a b=true)=(a=b):=propext (nh rfl)
theorem Xg {a b:ab}:(bp am a b=true)=(a=b):=propext (nh rfl)
theorem Yb (a b:cb):bp bI a b=decide (a=b):=by
 rw[Bool.eq_iff_iff,decide_eq_true_eq,Xf]
theorem Yc (a b:ab):bp am a b=decide (a=b):=by
 rw[Bool.eq_iff_iff,decide_eq_true_eq,Xg]
theorem Tn (op k:Int):IC op k=some ((oq op k,()),()):=by
 rw[Sx]
 unfold oq cg
 simp only[beq_iff_eq,decide_eq_true_eq,ge_iff_le,pf]
 by_cases h:op=1∨op=2∨op=3∨op=4∨op=5∨op=6∨op=7∨op=8∨op=9∨op=10
 ·by_cases hk:1≤k <;> by_cases hk2:k=2 <;> rcases h with rfl | rfl | rfl | rfl | rfl | rfl | rfl | rfl | rfl | rfl <;> simp[hk,hk2] <;> omega
 ·have h1:op≠1:=by omega
  have h2:op≠2:=by omega
  have h3:op≠3:=by omega
  have h4:op≠4:=by omega
  have h5:op≠5:=by omega
  have h6:op≠6:=by omega
  have h7:op≠7:=by omega
  have h8:op≠8:=by omega
  have h9:op≠9:=by omega
  have h10:op≠10:=by omega
  have h11 : ¬(1≤op∧op≤7):=by omega
  have h12 : ¬(8≤op∧op≤10):=by omega
  simp only[h1,h2,h3,h4,h5,h6,h7,h8,h9,h10,h11,h12,if_false]
theorem Dk {x:aa} (h:x.2.2.1.2.2.1.size≤9223372036854775807):xf x=some ((dE x,()),()):=by
 rw[Ng]
 unfold dE kl
 simp only[fd h,mD,Te,jL,Tn,Option.bind_some,beq_iff_eq,bne_iff_ne,ne_eq,Xf,Xg,Yb,Yc,pf,v0,ge_iff_le]
 generalize (List.length x.2.2.2.2.2.1:Int)=k
 by_cases h1:x.1=1
 ·by_cases a1:x.2.1=0 <;> by_cases a2:x.2.2.2.1=p0 <;> by_cases a3:x.2.2.2.2.1=p0 <;> by_cases a4:k=0 <;> cases ov:ax x.2.2.1 <;> by_cases a5:x.2.2.1.1=0 <;> by_cases a6:x.2.2.1.1=1 <;> simp[a1,a2,a3,a4,a5,a6,h1,ov]
 by_cases h2:x.1=2
 ·by_cases a1:x.2.1=0 <;> by_cases a2:x.2.2.1=(0,0,eS,()) <;> by_cases a3:x.2.2.2.2.1=p0 <;> by_cases a4:k=0 <;> simp[a1,a2,a3,a4,h2]
 by_cases h3:x.1=3
 ·by_cases a1:x.2.1=0 <;> by_cases a2:x.2.2.1=(0,0,eS,()) <;> by_cases a4:k=0 <;> simp[a1,a2,a4,h3]
 by_cases h4:x.1=4
 ·by_cases a1:x.2.1=0 <;> by_cases a2:x.2.2.1=(0,0,eS,()) <;> by_cases a3:x.2.2.2.1=p0 <;> by_cases a4:x.2.2.2.2.1=p0 <;> simp[a1,a2,a3,a4,h4]
 by_cases h5:x.1=5
 ·cases hi:cg x.2.1 1 11 <;> by_cases a2:x.2.2.1=(0,0,eS,()) <;> by_cases a3:x.2.2.2.1=p0 <;> by_cases a4:x.2.2.2.2.1=p0 <;> simp[a2,a3,a4,h5,hi]
 by_cases h6:x.1=6
 ·cases hi:oq x.2.1 k <;> by_cases a2:x.2.2.1=(0,0,eS,()) <;> by_cases a3:x.2.2.2.1=p0 <;> simp[a2,a3,h6,hi]
 simp[h1,h2,h3,h4,h5,h6]
theorem HL {x:aa} (h:x.2.2.1.2.2.1.size≤9223372036854775807):vD x=some ((dE x,()),()):=by
 have c1 : ∀ a:cb,(p0=a)=(a=p0):=fun a=>propext eq_comm
 have c2 : ∀ a:ab,((0,0,eS,())=a)=(a=(0,0,eS,())):=fun a=>propext eq_comm
 rw[Hu,C8,FU]
 unfold dE kl oq
 simp only[fe h,zQ,Tf,ge,Option.bind_some,beq_iff_eq,bne_iff_ne,ne_eq,Xf,Xg,Yb,Yc,pf,v0,ge_iff_le,c1,c2]
 generalize (List.length x.2.2.2.2.2.1:Int)=k
 by_cases h1:x.1=1
 ·simp only[h1,if_true]
  by_cases a1:x.2.1=0 <;> by_cases a2:x.2.2.2.1=p0 <;> by_cases a3:x.2.2.2.2.1=p0 <;> by_cases a4:k=0 <;> cases ax x.2.2.1 <;> by_cases a5:x.2.2.1.1=0 <;> by_cases a6:x.2.2.1.1=1 <;> by_cases a7:x.2.2.1.2.1 < 0 <;> have a8:(0≤x.2.2.1.2.1) = ¬x.2.2.1.2.1 < 0:=propext (by omega) <;> simp[a1,a2,a3,a4,a5,a6,a7,a8]
 by_cases h2:x.1=2
 ·have e:q9 (x.2.2.2.1.1,x.2.2.2.1.1,())=bS x.2.2.2.1.1:=by
   unfold q9
   simp
  by_cases a1:x.2.1=0 <;> by_cases a2:x.2.2.1=(0,0,eS,()) <;> by_cases a3:x.2.2.2.2.1=p0 <;> by_cases a4:k=0 <;> cases hr:bS x.2.2.2.1.1 <;> simp[a1,a2,a3,a4,h2,e,hr]
 by_cases h3:x.1=3
 ·by_cases a1:x.2.1=0 <;> by_cases a2:x.2.2.1=(0,0,eS,()) <;> by_cases a4:k=0 <;> cases hr:q9 (x.2.2.2.1.1,x.2.2.2.2.1.1,()) <;> simp[a1,a2,a4,h3,hr]
 by_cases h4:x.1=4
 ·by_cases a1:x.2.1=0 <;> by_cases a2:x.2.2.1=(0,0,eS,()) <;> by_cases a3:x.2.2.2.1=p0 <;> by_cases a4:x.2.2.2.2.1=p0 <;> by_cases a5:k=1 <;> simp[a1,a2,a3,a4,a5,h4]
 by_cases h5:x.1=5
 ·cases hi:cg x.2.1 1 11 <;> by_cases a2:x.2.2.1=(0,0,eS,()) <;> by_cases a3:x.2.2.2.1=p0 <;> by_cases a4:x.2.2.2.2.1=p0 <;> by_cases a5:k=2 <;> simp[a2,a3,a4,a5,h5,hi]
 by_cases h6:x.1=6
 ·by_cases a2:x.2.2.1=(0,0,eS,()) <;> by_cases a3:x.2.2.2.1=p0 <;> by_cases a4:x.2.2.2.2.1=p0 <;> simp only[a2,a3,a4,h6,if_true,if_false,decide_true,decide_false,Bool.and_false,Bool.and_true]
  all_goals
   generalize x.2.1=op
   unfold cg
   by_cases b1:1≤op∧op≤10
   ·by_cases b2:op=5
    ·subst b2
     by_cases b3:2≤k∧k≤3
     ·have:k=2∨k=3:=by omega
      rcases this with rfl | rfl <;> simp
     ·have : ¬k=2:=by omega
      have : ¬k=3:=by omega
      simp[b3, *]
    ·by_cases b3:8≤op
     ·have b4 : ¬(op≤7):=by omega
      have b5:op≤10:=by omega
      by_cases b6:k=1 <;> simp[b1,b2,b3,b4,b5,b6]
     ·have b4:op≤7:=by omega
      by_cases b6:1≤k∧k≤10 <;> simp[b1,b2,b3,b4,b6]
   ·have b2 : ¬op=5:=by omega
    have b3 : ¬(1≤op∧op≤7):=by omega
    have b4 : ¬(8≤op∧op≤10):=by omega
    simp[b1,b2,b3,b4]
 simp[h1,h2,h3,h4,h5,h6]
def nK (f:List aa) (i:Int):Bool:=decide ((f.getD i.toNat an.dflt).1=3)
def fQ (f:List aa) (k:Int):aa:=f.getD k.toNat an.dflt
def gf (c:Int→Option (Int×Nat)) (f:List aa) (call:Bool):List Int→Int→Nat→Option (Int×Nat)
 | [],cur,h=>some (cur,h+1)
 | kid :: l,cur,h=>if kid=cur - 1∧0≤kid∧(nK f kid=true→call=true) then(c kid).bind fun p=>gf c f call l p.1 (max h p.2) else none
def fD (f:List aa):Nat→Int→Option (Int×Nat)
 | 0,_=>none
 | n+1,k=>if 0≤k then match f[k.toNat]? with
  | none=>none
  | some x=>if dE x=true then gf (fD f n) f (decide (x.1=6)) x.2.2.2.2.2.1.reverse k 0 else none
  else none
def mE (f:List aa) (i:Nat) (x:aa):Prop:=dE x=true ∧ ∀ k∈x.2.2.2.2.2.1,0≤k∧k < i∧(nK f k=true→x.1=6)
theorem tC {c:Int→Option (Int×Nat)} {f:List aa} {call:Bool} (hc : ∀ k s h,c k=some (s,h)→0≤s∧s≤k ∧ ∀ i:Nat,s≤i→(i:Int)≤k → ∃ x,f[i]? = some x∧mE f i x) :
  ∀(l:List Int) (cur:Int) (h:Nat) (s:Int) (h':Nat),0≤cur→gf c f call l cur h=some (s,h')→0≤s∧s≤cur∧h+1≤h'∧(∀ i:Nat,s≤i→(i:Int) < cur → ∃ x,f[i]? = some x∧mE f i x) ∧ ∀ k∈l,0≤k∧k < cur∧(nK f k=true→call=true)
 | [],cur,h,s,h',h0,e=>by
  simp only[gf,Option.some.injEq,Prod.mk.injEq] at e
  obtain⟨rfl,rfl⟩:=e
  exact⟨h0,Int.le_refl _,Nat.le_refl _,fun i h1 h2=>by omega,fun k hk=>by cases hk⟩
 | kid :: l,cur,h,s,h',h0,e=>by
  simp only[gf] at e
  split at e
  ·rename_i hk
   rw[Option.bind_eq_some_iff] at e
   obtain⟨⟨t,ht⟩,e1,e2⟩:=e
   obtain⟨a1,a2,a3⟩:=hc _ _ _ e1
   obtain⟨b1,b2,b3,b4,b5⟩:=tC hc l t (max h ht) s h' a1 e2
   refine⟨b1,by omega,by omega,fun i h1 h2 => ?_,fun k hm => ?_⟩
   ·by_cases hi:(i:Int) < t
    ·exact b4 i h1 hi
    ·exact a3 i (by omega) (by omega)
   ·rcases List.mem_cons.1 hm with rfl | hm
    ·exact⟨hk.2.1,by omega,hk.2.2⟩
    ·have:=b5 k hm
     exact⟨this.1,by omega,this.2.2⟩
  ·cases e
theorem jj (f:List aa) : ∀(n:Nat) (k s:Int) (h:Nat),fD f n k=some (s,h)→0≤s∧s≤k ∧ ∀ i:Nat,s≤i→(i:Int)≤k → ∃ x,f[i]? = some x∧mE f i x
 | 0,_,_,_,e=>by cases e
 | n+1,k,s,h,e=>by
  simp only[fD] at e
  split at e
  ·rename_i h0
   split at e
   ·cases e
   ·rename_i x hx
    split at e
    ·rename_i ho
     obtain⟨b1,b2,b3,b4,b5⟩:=tC (jj f n) _ _ _ _ _ h0 e
     refine⟨b1,b2,fun i h1 h2 => ?_⟩
     by_cases hi:(i:Int) < k
     ·exact b4 i h1 hi
     ·have hik:i=k.toNat:=by omega
      refine⟨x,by rw[hik,hx],ho,fun k' hk' => ?_⟩
      have:=b5 k' (by simpa using hk')
      exact⟨this.1,by omega,fun ha=>by simpa using this.2.2 ha⟩
    ·cases e
  ·cases e
theorem YE {f:List aa} {n:Nat} {k s:Int} {h:Nat} (e:fD f n k=some (s,h)):1≤h:=by
 cases n with
 | zero=>cases e
 | succ n =>
  simp only[fD] at e
  split at e
  ·rename_i h0
   split at e
   ·cases e
   ·split at e
    ·exact Nat.le_trans (by omega) (tC (jj f n) _ _ _ _ _ h0 e).2.2.1
    ·cases e
  ·cases e
def oH (deep:Int):Option (Int×Nat)→Int
 | some (s,h)=>if deep+h≤12 then s else -1
 | none => -1
theorem fE {n:Int} (h0 : -1000000000≤n) (h1:n≤1000000000):IntKind.i64.wrap n=n:=wr (by omega) (by omega)
section
variable {f:List aa} (hl:f.length≤10000000) (hs : ∀ x∈f,x.2.2.1.2.2.1.size≤9223372036854775807)
include hl hs
theorem HM {n:Nat} (ih : ∀(k deep:Int),0≤k→k < n→k < f.length→0≤deep→deep≤12→A8 f k deep=some ((oH deep (fD f n k),()),())) {x:aa} {k:Int} (h0:0≤k) (hk:f[k.toNat]? = some x) (hkn:k≤n) (hkl:x.2.2.2.2.2.1.length≤10000000) :
  ∀(r suf:List Int) (cur:Int) (h:Nat) (deep:Int),x.2.2.2.2.2.1=r.reverse++suf→0≤cur→cur≤k→0≤deep→deep+h+1≤12→rS f k deep cur ((r.length:Int) - 1)=some ((oH deep (gf (fD f n) f (decide (x.1=6)) r cur h),()),())
 | [],suf,cur,h,deep,he,c0,c1,d0,d1=>by
  rw[E6,aA (by simp)]
  simp only[gf,oH]
  rw[if_pos (by omega)]
 | kid :: r,suf,cur,h,deep,he,c0,c1,d0,d1=>by
  have hkl2:k < (f.length:Int):=by
   have:=(List.getElem?_eq_some_iff.1 hk).1
   omega
  have he':x.2.2.2.2.2.1=r.reverse++kid :: suf:=by rw[he]; simp
  have hlen:(((kid :: r).length:Int) - 1)=((r.reverse).length:Int):=by simp
  rw[E6,aB (by rw[hlen]; exact nn _),bV h0 hk,hlen,br he',fE (n:=cur - 1) (by omega) (by omega)]
  simp only[gf]
  by_cases e1:kid=cur - 1
  ·rw[if_neg (by simp[e1])]
   by_cases e2:kid < 0
   ·rw[aB e2,if_neg (by omega)]
    rfl
   ·rw[aA e2]
    have hkd:kid < (f.length:Int):=by omega
    obtain⟨y,hy⟩ : ∃ y,f[kid.toNat]? = some y:=⟨f[kid.toNat]'(by omega),List.getElem?_eq_getElem _⟩
    rw[bV (by omega) hy]
    have har:nK f kid=decide (y.1=3):=by
     unfold nK
     rw[List.getD_eq_getElem?_getD,hy]
     rfl
    have go:((A8 f kid (IntKind.i64.wrap (deep+1))).bind fun z1=>if decide (z1.1.1 < 0)=true then some ((-1,()),()) else rS f k deep z1.1.1 (IntKind.i64.wrap (((r.reverse).length:Int) - 1)))=some ((oH deep ((fD f n kid).bind fun p=>gf (fD f n) f (decide (x.1=6)) r p.1 (max h p.2)),()),()):=by
     have hlr:(r.reverse).length≤10000000:=by
      rw[he',List.length_append] at hkl
      omega
     rw[fE (by omega) (by omega),fE (by omega) (by omega),ih kid (deep+1) (by omega) (by omega) hkd (by omega) (by omega),Option.bind_some]
     cases hc:fD f n kid with
     | none=>rfl
     | some p =>
      obtain⟨t,ht⟩:=p
      have ha:=jj f n _ _ _ hc
      by_cases hd:deep+1+ht≤12
      ·have er:oH (deep+1) (some (t,ht))=t:=if_pos hd
       simp only[er,Option.bind_some]
       rw[aA (by omega),List.length_reverse,HM ih h0 hk hkn hkl r (kid :: suf) t (max h ht) deep he' (by omega) (by omega) d0 (by omega)]
      ·have er:oH (deep+1) (some (t,ht)) = -1:=if_neg hd
       simp only[er,Option.bind_some]
       rw[aB (by decide)]
       cases hq:gf (fD f n) f (decide (x.1=6)) r t (max h ht) with
       | none=>rfl
       | some q =>
        obtain⟨s',h'⟩:=q
        have:=(tC (jj f n) _ _ _ _ _ (by omega) hq).2.2.1
        simp only[oH]
        rw[if_neg (by omega)]
    by_cases e3:y.1=3
    ·rw[if_pos (by simp[e3]),bV h0 hk]
     by_cases e4:x.1=6
     ·rw[if_neg (by simp[e4]),if_pos ⟨e1,by omega,fun _=>by simp[e4]⟩]
      exact go
     ·rw[if_pos (by simp[e4]),if_neg (by rw[har]; simp[e3,e4])]
      rfl
    ·rw[if_neg (by simp[e3]),if_pos ⟨e1,by omega,fun h=>by rw[har] at h; simp[e3] at h⟩]
     exact go
  ·rw[if_pos (by simpa using e1),if_neg (fun h=>e1 h.1)]
   rfl
theorem NI : ∀(n:Nat) (k deep:Int),0≤k→k < n→k < f.length→0≤deep→deep≤12→(∀ x∈f,x.2.2.2.2.2.1.length≤10000000)→A8 f k deep=some ((oH deep (fD f n k),()),())
 | 0,k,deep,h0,h1,_,_,_,_=>by omega
 | n+1,k,deep,h0,h1,h2,d0,d1,hkl=>by
  obtain⟨x,hx⟩ : ∃ y,f[k.toNat]? = some y:=⟨f[k.toNat]'(by omega),List.getElem?_eq_getElem _⟩
  have hm:x∈f:=List.mem_of_getElem? hx
  rw[W1,aA (by omega)]
  by_cases hd:deep≥12
  ·rw[aB hd]
   cases hc:fD f (n+1) k with
   | none=>rfl
   | some p =>
    obtain⟨s,h⟩:=p
    have:=YE hc
    simp only[oH]
    rw[if_neg (by omega)]
  ·have:=hkl x hm
   rw[aA hd,bV h0 hx,HL (hs x hm),Option.bind_some,bV h0 hx,fE (by omega) (by omega)]
   simp only[fD,if_pos h0,hx]
   cases ho:dE x with
   | false=>rfl
   | true =>
    simp only[Bool.not_true,Bool.false_eq_true,if_false,if_true]
    have:=HM hl hs (n:=n) (fun k deep a b c d e=>NI n k deep a b c d e hkl) h0 hx (by omega) this x.2.2.2.2.2.1.reverse [] k 0 deep (by simp) h0 (Int.le_refl _) d0 (by omega)
    rw[List.length_reverse] at this
    exact this
def Ja:Option (Int×Nat)→Int
 | some (s,_)=>s
 | none => -1
theorem Dl {n:Nat} (A : ∀(i:Nat) (x:aa),f[i]? = some x→mE f i x) (ih : ∀(k:Int),0≤k→k < n→k < f.length→zA f k=some ((Ja (fD f n k),()),())) {x:aa} {k:Int} (h0:0≤k) (hk:f[k.toNat]? = some x) (hkn:k≤n) (hkl:x.2.2.2.2.2.1.length≤10000000) :
  ∀(r suf:List Int) (cur:Int) (h:Nat),x.2.2.2.2.2.1=r.reverse++suf→0≤cur→cur≤k→uI f k (cur - 1) ((r.length:Int) - 1)=some ((Ja (gf (fD f n) f (decide (x.1=6)) r cur h),()),())
 | [],suf,cur,h,he,c0,c1=>by
  have hkl2:k < (f.length:Int):=by
   have:=(List.getElem?_eq_some_iff.1 hk).1
   omega
  rw[B3,aA (by simp),fE (by omega) (by omega)]
  simp only[gf,Ja]
  congr 3
  omega
 | kid :: r,suf,cur,h,he,c0,c1=>by
  have hkl2:k < (f.length:Int):=by
   have:=(List.getElem?_eq_some_iff.1 hk).1
   omega
  have he':x.2.2.2.2.2.1=r.reverse++kid :: suf:=by rw[he]; simp
  have hlen:(((kid :: r).length:Int) - 1)=((r.reverse).length:Int):=by simp
  have hmem:kid∈x.2.2.2.2.2.1:=by rw[he']; simp
  have hst:=(A _ _ hk).2 kid hmem
  rw[B3,aB (by rw[hlen]; exact nn _)]
  simp only[gf]
  by_cases e0:cur - 1 < 0
  ·rw[aB e0,if_neg (by omega)]
   rfl
  ·rw[aA e0,bV h0 hk,hlen,br he']
   by_cases e1:kid=cur - 1
   ·have hkd:kid < (f.length:Int):=by omega
    have hlr:(r.reverse).length≤10000000:=by
     rw[he',List.length_append] at hkl
     omega
    rw[if_neg (by simp[e1]),if_pos ⟨e1,hst.1,fun ha=>by simpa using hst.2.2 ha⟩,←e1,ih kid hst.1 (by omega) hkd,Option.bind_some,fE (n:=(r.reverse.length:Int) - 1) (by omega) (by omega)]
    cases hc:fD f n kid with
    | none=>rfl
    | some p =>
     obtain⟨t,ht⟩:=p
     have ha:=jj f n _ _ _ hc
     have er:Ja (some (t,ht))=t:=rfl
     simp only[er,Option.bind_some]
     rw[aA (by omega),fE (n:=t - 1) (by omega) (by omega),List.length_reverse,Dl A ih h0 hk hkn hkl r (kid :: suf) t (max h ht) he' (by omega) (by omega)]
   ·rw[if_pos (by simpa using e1),if_neg (fun h=>e1 h.1)]
    rfl
theorem HN (A : ∀(i:Nat) (x:aa),f[i]? = some x→mE f i x) (hkl : ∀ x∈f,x.2.2.2.2.2.1.length≤10000000) : ∀(n:Nat) (k:Int),0≤k→k < n→k < f.length→zA f k=some ((Ja (fD f n k),()),())
 | 0,k,h0,h1,_=>by omega
 | n+1,k,h0,h1,h2=>by
  obtain⟨x,hx⟩ : ∃ y,f[k.toNat]? = some y:=⟨f[k.toNat]'(by omega),List.getElem?_eq_getElem _⟩
  have hm:x∈f:=List.mem_of_getElem? hx
  have hk:=hkl x hm
  rw[SA,bV h0 hx,fE (n:=k - 1) (by omega) (by omega),fE (by omega) (by omega)]
  simp only[fD,if_pos h0,hx,(A _ _ hx).1,if_true]
  have:=Dl hl hs (n:=n) A (HN A hkl n) h0 hx (by omega) hk x.2.2.2.2.2.1.reverse [] k 0 (by simp) h0 (Int.le_refl _)
  rw[List.length_reverse] at this
  exact this
def nw (c:Int→Option (Int×Nat)):List Int→Nat
 | []=>0
 | k :: l=>max (((c k).map (·.2)).getD 0) (nw c l)
omit hl hs in
theorem F4 (c:Int→Option (Int×Nat)) (k:Int) : ∀ l,nw c (l++[k])=max (nw c l) (((c k).map (·.2)).getD 0)
 | []=>by simp[nw]
 | y :: l=>by
  simp only[List.cons_append,nw,F4 c k l]
  omega
omit hl hs in
theorem Re (c:Int→Option (Int×Nat)) : ∀ l,nw c l.reverse=nw c l
 | []=>rfl
 | y :: l=>by
  rw[List.reverse_cons,F4,Re c l]
  simp only[nw]
  omega
omit hl hs in
theorem KK {c:Int→Option (Int×Nat)} {call:Bool} : ∀(l:List Int) (cur:Int) (h:Nat) (s:Int) (h':Nat),gf c f call l cur h=some (s,h')→h'=max h (nw c l)+1 ∧ ∀ k∈l,∃ p,c k=some p
 | [],cur,h,s,h',e=>by
  simp only[gf,Option.some.injEq,Prod.mk.injEq] at e
  exact⟨by simp only[nw]; omega,fun k hk=>by cases hk⟩
 | kid :: l,cur,h,s,h',e=>by
  simp only[gf] at e
  split at e
  ·rw[Option.bind_eq_some_iff] at e
   obtain⟨⟨t,ht⟩,e1,e2⟩:=e
   obtain⟨b1,b2⟩:=KK l t (max h ht) s h' e2
   refine⟨?_,fun k hk => ?_⟩
   ·simp only[nw,e1,Option.map_some,Option.getD_some]
    omega
   ·rcases List.mem_cons.1 hk with rfl | hk
    ·exact⟨_,e1⟩
    ·exact b2 k hk
  ·cases e
theorem Dn {n:Nat} {c:Int→Option (Int×Nat)} (ih : ∀(k:Int) (s:Int) (h:Nat),k < n→c k=some (s,h)→zB f k=some (((h:Int),()),())) {x:aa} {k:Int} (h0:0≤k) (hk:f[k.toNat]? = some x) (hkn:k≤n) (hkl:x.2.2.2.2.2.1.length≤10000000) (hall : ∀ k'∈x.2.2.2.2.2.1,(∃ p,c k'=some p)∧k' < k) (hb:nw c x.2.2.2.2.2.1≤10000000) :
  ∀(ys pre:List Int),x.2.2.2.2.2.1=pre++ys→uJ f k (nw c pre:Int) (pre.length:Int)=some ((((nw c x.2.2.2.2.2.1+1:Nat):Int),()),())
 | [],pre,he=>by
  have:pre=x.2.2.2.2.2.1:=by rw[he]; simp
  rw[B4,bV h0 hk,aA (bj he),this,fE (by omega) (by omega)]
  rfl
 | y :: ys,pre,he=>by
  obtain⟨⟨⟨s,h⟩,hc⟩,hlt⟩:=hall y (by rw[he]; simp)
  rw[B4,bV h0 hk,aB (bu he),bV h0 hk,br he,ih y s h (by omega) hc,Option.bind_some,aJ he (by omega)]
  have:(if((nw c pre:Nat):Int) < (h:Int) then(h:Int) else((nw c pre:Nat):Int))=(nw c (pre++[y]):Int):=by
   rw[F4,hc]
   simp only[Option.map_some,Option.getD_some]
   split <;> omega
  rw[this]
  exact Dn ih h0 hk hkn hkl hall hb ys _ (az he)
theorem BA (hkl : ∀ x∈f,x.2.2.2.2.2.1.length≤10000000) : ∀(n:Nat) (k s:Int) (h:Nat),fD f n k=some (s,h)→n≤10000000→h≤n∧zB f k=some (((h:Int),()),())
 | 0,_,_,_,e,_=>by cases e
 | n+1,k,s,h,e,hn=>by
  have hall:=jj f _ _ _ _ e
  simp only[fD] at e
  split at e
  ·rename_i h0
   split at e
   ·cases e
   ·rename_i x hx
    split at e
    ·have hm:x∈f:=List.mem_of_getElem? hx
     obtain⟨b1,b2⟩:=KK _ _ _ _ _ e
     have hst:=tC (jj f n) _ _ _ _ _ h0 e
     have hhm:nw (fD f n) x.2.2.2.2.2.1≤n:=by
      have : ∀ l:List Int,nw (fD f n) l≤n:=by
       intro l
       induction l with
       | nil=>exact Nat.zero_le _
       | cons y l ih =>
        simp only[nw]
        cases hc:fD f n y with
        | none=>simpa using ih
        | some p =>
         have:=(BA hkl n y p.1 p.2 hc (by omega)).1
         simp only[Option.map_some,Option.getD_some]
         omega
      exact this _
     rw[Re] at b1
     refine⟨by omega,?_⟩
     rw[SB]
     have hk2 : ∀ k'∈x.2.2.2.2.2.1,(∃ p,fD f n k'=some p)∧k' < k:=fun k' hk'=>⟨b2 k' (by simpa using hk'),(hst.2.2.2.2 k' (by simpa using hk')).2.1⟩
     have:=Dn hl hs (n:=k.toNat) (c:=fD f n) (fun k' s' h' _ hc=>(BA hkl n k' s' h' hc (by omega)).2) h0 hx (by omega) (hkl x hm) hk2 (by omega) x.2.2.2.2.2.1 [] rfl
     rw[b1]
     have hz:max 0 (nw (fD f n) x.2.2.2.2.2.1)=nw (fD f n) x.2.2.2.2.2.1:=by omega
     rw[hz]
     exact this
    ·cases e
  ·cases e
end
def wn (f:List aa):Bool:=match fD f f.length ((f.length:Int) - 1) with
 | some (s,h)=>decide (s=0) && (!nK f ((f.length:Int) - 1) && decide ((h:Int)≤12))
 | none=>false
def fF (f:List aa):Bool:=cg (f.length:Int) 1 60 && wn f
theorem np {f:List aa} (h:fF f=true) (i:Nat) (x:aa) (hx:f[i]? = some x):mE f i x:=by
 unfold fF wn at h
 simp only[Bool.and_eq_true] at h
 obtain⟨h1,h2⟩:=h
 have h1:=bw.1 h1
 cases hc:fD f f.length ((f.length:Int) - 1) with
 | none=>rw[hc] at h2; cases h2
 | some p =>
  obtain⟨s,d⟩:=p
  rw[hc] at h2
  simp only[Bool.and_eq_true,decide_eq_true_eq] at h2
  have hl:=(List.getElem?_eq_some_iff.1 hx).1
  obtain⟨y,hy,hs⟩:=(jj f _ _ _ _ hc).2.2 i (by omega) (by omega)
  rw[hx] at hy
  rw[Option.some.inj hy]
  exact hs
section
variable {f:List aa} (hl:f.length≤10000000) (hs : ∀ x∈f,x.2.2.1.2.2.1.size≤9223372036854775807) (hkl : ∀ x∈f,x.2.2.2.2.2.1.length≤10000000)
include hl hs hkl
theorem oI:uD f=some ((fF f,()),()):=by
 rw[LF]
 unfold fF
 simp only[ge,Option.bind_some]
 cases hb:cg (f.length:Int) 1 60 with
 | false=>rfl
 | true =>
  have hb:=bw.1 hb
  obtain⟨x,hx⟩ : ∃ y,f[((f.length:Int) - 1).toNat]? = some y:=⟨f[((f.length:Int) - 1).toNat]'(by omega),List.getElem?_eq_getElem _⟩
  have har:nK f ((f.length:Int) - 1)=decide (x.1=3):=by
   unfold nK
   rw[List.getD_eq_getElem?_getD,hx]
   rfl
  have hfr:=NI hl hs f.length ((f.length:Int) - 1) 0 (by omega) (by omega) (by omega) (by decide) (by decide) hkl
  simp only[if_true]
  rw[fE (by omega) (by omega),bV (by omega) hx,hfr]
  unfold wn
  rw[har]
  cases hc:fD f f.length ((f.length:Int) - 1) with
  | none=>by_cases h3:x.1=3 <;> simp[h3,oH]
  | some p =>
   obtain⟨s,h⟩:=p
   have hp:=(jj f _ _ _ _ hc).1
   by_cases h3:x.1=3
   ·simp[h3]
   ·by_cases h4:(h:Int)≤12
    ·simp[h3,oH,h4,pf]
    ·simp[h3,oH,h4]
theorem xT {x:aa} {i:Nat} (hi:f[i]? = some x) (hil:i≤10000000) : ∀(ys pre:List Int),x.2.2.2.2.2.1=pre++ys →
  kX f (i:Int) (pre.length:Int)=if(ys.all fun k=>cg k 0 ((i:Int) - 1) && (!nK f k || decide (x.1=6)))=true then eH f ((i+1:Nat):Int) else some ((false,()),())
 | [],pre,he=>by
  rw[wi,bV (nn _) (by simpa using hi),aA (bj he),fE (by omega) (by omega)]
  simp
 | y :: ys,pre,he=>by
  have hm:x∈f:=List.mem_of_getElem? hi
  have:=hkl x hm
  rw[wi,bV (nn _) (by simpa using hi),aB (bu he),bV (nn _) (by simpa using hi),br he,jL,Option.bind_some,fE (n:=(i:Int) - 1) (by omega) (by omega),aJ he (by omega)]
  have ih:=xT hi hil ys _ (az he)
  have hlt:=(List.getElem?_eq_some_iff.1 hi).1
  cases hy:cg y 0 ((i:Int) - 1) with
  | false=>simp[hy]
  | true =>
   have hy2:=bw.1 hy
   obtain⟨z,hz⟩ : ∃ z,f[y.toNat]? = some z:=⟨f[y.toNat]'(by omega),List.getElem?_eq_getElem _⟩
   have har:nK f y=decide (z.1=3):=by
    unfold nK
    rw[List.getD_eq_getElem?_getD,hz]
    rfl
   simp only[Bool.not_true,Bool.false_eq_true,if_false]
   rw[bV (by omega) hz]
   by_cases h3:z.1=3
   ·rw[if_pos (by simp[h3]),bV (nn _) (by simpa using hi)]
    by_cases h6:x.1=6
    ·rw[if_neg (by simp[h6]),ih]
     simp[hy,har,h6]
    ·rw[if_pos (by simp[h6])]
     simp[hy,har,h3,h6]
   ·rw[if_neg (by simp[h3]),ih]
    simp[hy,har,h3]
def nq (f:List aa) (i:Nat):Bool:=match f[i]? with
 | some x=>dE x && x.2.2.2.2.2.1.all fun k=>cg k 0 ((i:Int) - 1) && (!nK f k || decide (x.1=6))
 | none=>true
omit hl hs hkl in
theorem E8 {i:Nat} {x:aa} (hx:f[i]? = some x):nq f i=true↔mE f i x:=by
 unfold nq mE
 rw[hx]
 simp only[Bool.and_eq_true,List.all_eq_true,bw,Bool.or_eq_true,Bool.not_eq_true',decide_eq_true_eq]
 constructor
 ·rintro⟨h1,h2⟩
  refine⟨h1,fun k hk => ?_⟩
  obtain⟨⟨a,b⟩,c⟩:=h2 k hk
  refine⟨a,by omega,fun ha => ?_⟩
  rcases c with c | c
  ·rw[c] at ha
   cases ha
  ·exact c
 ·rintro⟨h1,h2⟩
  refine⟨h1,fun k hk => ?_⟩
  obtain⟨a,b,c⟩:=h2 k hk
  refine⟨⟨a,by omega⟩,?_⟩
  cases ha:nK f k with
  | true=>exact .inr (c ha)
  | false=>exact .inl rfl
theorem HO (hne:1≤f.length) (A : ∀(i:Nat) (x:aa),f[i]? = some x→mE f i x):eH f (f.length:Int)=some ((wn f,()),()):=by
 obtain⟨x,hx⟩ : ∃ y,f[((f.length:Int) - 1).toNat]? = some y:=⟨f[((f.length:Int) - 1).toNat]'(by omega),List.getElem?_eq_getElem _⟩
 have har:nK f ((f.length:Int) - 1)=decide (x.1=3):=by
  unfold nK
  rw[List.getD_eq_getElem?_getD,hx]
  rfl
 rw[wb,aA (Int.lt_irrefl _),fE (by omega) (by omega),HN hl hs A hkl f.length _ (by omega) (by omega) (by omega),Option.bind_some,bV (by omega) hx]
 unfold wn
 rw[har]
 cases hc:fD f f.length ((f.length:Int) - 1) with
 | none=>rfl
 | some p =>
  obtain⟨s,h⟩:=p
  have er:Ja (some (s,h))=s:=rfl
  simp only[er]
  by_cases h0:s=0
  ·by_cases h3:x.1=3
   ·simp[h0,h3]
   ·rw[if_pos (by simp[h0]),if_pos (by simp[h3]),(BA hl hs hkl _ _ _ _ hc hl).2]
    simp[h0,h3]
  ·rw[if_neg (by simp[h0])]
   simp[h0]
theorem HP {i:Nat} (hi:i < f.length):eH f (i:Int)=if nq f i=true then eH f ((i+1:Nat):Int) else some ((false,()),()):=by
 obtain⟨x,hx⟩ : ∃ y,f[i]? = some y:=⟨f[i],List.getElem?_eq_getElem _⟩
 have hm:x∈f:=List.mem_of_getElem? hx
 rw[wb,aB (by omega),bV (nn _) (by simpa using hx),Dk (hs x hm),Option.bind_some]
 have es:nq f i=(dE x && x.2.2.2.2.2.1.all fun k=>cg k 0 ((i:Int) - 1) && (!nK f k || decide (x.1=6))):=by
  unfold nq
  rw[hx]
 rw[es]
 cases ho:dE x with
 | false=>simp
 | true =>
  have:=xT hl hs hkl hx (by omega) x.2.2.2.2.2.1 [] rfl
  simp only[Bool.not_true,Bool.false_eq_true,if_false,Bool.true_and]
  exact this
open Classical in
theorem wo : ∀(n i:Nat),i+n=f.length→eH f (i:Int)=if(∀ j,i≤j→j < f.length→nq f j=true) then eH f (f.length:Int) else some ((false,()),())
 | 0,i,h=>by
  have:i=f.length:=by omega
  rw[this,if_pos (fun j h1 h2=>by omega)]
 | n+1,i,h=>by
  rw[HP hl hs hkl (by omega),wo n (i+1) (by omega)]
  by_cases h1:nq f i=true
  ·rw[if_pos h1]
   by_cases h2 : ∀ j,i+1≤j→j < f.length→nq f j=true
   ·rw[if_pos h2,if_pos (fun j a b=>by
     by_cases hj:j=i
     ·rw[hj]; exact h1
     ·exact h2 j (by omega) b)]
   ·rw[if_neg h2,if_neg (fun h3=>h2 fun j a b=>h3 j (by omega) b)]
  ·rw[if_neg h1,if_neg (fun h3=>h1 (h3 i (Nat.le_refl _) (by omega)))]
theorem k8:m6 f=some ((fF f,()),()):=by
 rw[Lu]
 by_cases h1:(f.length:Int) < 1
 ·rw[aB h1]
  have:cg (f.length:Int) 1 60=false:=by simp[cg]; omega
  simp[fF,this]
 ·rw[aA h1]
  by_cases h2:(f.length:Int) > 60
  ·rw[aB h2]
   have:cg (f.length:Int) 1 60=false:=by simp[cg]; omega
   simp[fF,this]
  ·have hb:cg (f.length:Int) 1 60=true:=bw.2 (by omega)
   rw[aA h2,show(0:Int)=((0:Nat):Int) from rfl,wo hl hs hkl f.length 0 (by omega)]
   by_cases A : ∀ j,0≤j→j < f.length→nq f j=true
   ·rw[if_pos A,HO hl hs hkl (by omega) fun i x hx=>(E8 hx).1 (A i (Nat.zero_le _) (List.getElem?_eq_some_iff.1 hx).1)]
    simp[fF,hb]
   ·rw[if_neg A]
    have:fF f=false:=by
     cases ho:fF f with
     | false=>rfl
     | true =>
      refine absurd (fun j _ hj => ?_) A
      have hx:f[j]? = some f[j]:=List.getElem?_eq_getElem _
      exact(E8 hx).2 (np ho j _ hx)
    rw[this]
end
abbrev al:=List UInt8
abbrev lb (s:ByteArray):al:=s.data.toList
abbrev ba (l:al):ByteArray:=⟨l.toArray⟩
theorem dv (l:al):lb (ba l)=l:=by simp
theorem d9 (s:ByteArray):ba (lb s)=s:=by cases s; simp
theorem aQ (l:al):(ba l).size=l.length:=by
 show(ba l).data.size=_
 simp
theorem jk (s:ByteArray):(lb s).length=s.size:=by
 rw[Array.length_toList]
 rfl
theorem HQ {a b:al} (h:ba a=ba b):a=b:=by
 rw[←dv a,h,dv]
theorem aai {a b:al}:(ba a=ba b)=(a=b):=propext ⟨HQ,fun h=>by rw[h]⟩
theorem To (l:al) (i j:Nat):(ba l).extract i j=ba ((l.take j).drop i):=by
 apply An
 simp[ByteArray.data_extract,List.extract_eq_take_drop,List.drop_take]
theorem k9 (a b:al):ba a++ba b=ba (a++b):=by
 apply An
 simp
theorem dF {a b:al}:(ByteArray.toList (ba a) == ByteArray.toList (ba b))=decide (a=b):=by
 rw[s4,Bool.eq_iff_iff,decide_eq_true_eq,decide_eq_true_eq,aai]
theorem Vo (l:al):nv (ba l)=l.map fun b=>(b.toNat:Int):=by simp[nv]
theorem la {β:Type} {l pre ys:al} {y:UInt8} {f:Int→Option β} (h:l=pre++y :: ys):ez (ba l) (pre.length:Int) f=f (y.toNat:Int):=by
 have:=C5 (β:=β) (s:=ba l) (pre:=pre.map fun b=>(b.toNat:Int)) (ys:=ys.map fun b=>(b.toNat:Int)) (y:=(y.toNat:Int)) (f:=f) (by rw[Vo,h]; simp)
 rw[List.length_map] at this
 exact this
theorem re {β:Type} {y:UInt8} {ys:al} {f:Int→Option β}:ez (ba (y :: ys)) 0 f=f (y.toNat:Int):=la (pre:=[]) rfl
theorem HR {β:Type} {l:al} {n:Nat} {f:ByteArray→Option β} (h:n≤l.length):EK (ba l) (n:Int) f=f (ba (l.take n)):=by
 rw[Zz (nn _) (by rw[aQ]; omega),To]
 simp
theorem fR {β:Type} {l:al} {n:Nat} {f:ByteArray→Option β} (h:n≤l.length):jn (ba l) (n:Int) f=f (ba (l.drop n)):=by
 rw[ZA (nn _) (by rw[aQ]; omega),To,aQ]
 simp
theorem Ap {β:Type} {l:al} {i j:Nat} {f:ByteArray→Option β} (h:i≤j) (hj:j≤l.length):wW (ba l) (i:Int) (j:Int) f=f (ba ((l.take j).drop i)):=by
 rw[ZB (nn _) (by omega) (by rw[aQ]; omega),To]
 simp
theorem bF {β:Type} {a b:al} {f:ByteArray→Option β} (h:a.length+b.length≤9223372036854775807):cats (ba a) (ba b) f=f (ba (a++b)):=by
 rw[fy (by rw[aQ,aQ]; exact h),k9]
theorem yC (s p:al) (hs:s.length≤9223372036854775807):eU (ba s) (ba p)=some ((p.isPrefixOf s,()),()):=by
 rw[vX,aQ,aQ]
 by_cases h:p.length≤s.length
 ·rw[aB (by omega),HR h,dF]
  congr 3
  rw[Bool.eq_iff_iff,decide_eq_true_eq,List.isPrefixOf_iff_prefix,List.prefix_iff_eq_take]
  exact eq_comm
 ·rw[aA (by omega)]
  congr 3
  symm
  rw[Bool.eq_false_iff]
  intro hp
  exact h (List.isPrefixOf_iff_prefix.1 hp).length_le
theorem tD (s p:al) (hs:s.length≤9223372036854775807):ee (ba s) (ba p)=some ((p.isPrefixOf s,()),()):=by
 rw[Bj,yC s p hs]
 rfl
theorem tE (s p:al) (hs:s.length≤9223372036854775807):cq (ba s) (ba p)=some ((ba (if p.isPrefixOf s=true then s.drop p.length else s),p.isPrefixOf s,()),()):=by
 rw[Bi,vY,yC s p hs]
 simp only[Option.bind_some]
 cases hp:p.isPrefixOf s with
 | false=>rfl
 | true =>
  have:=(List.isPrefixOf_iff_prefix.1 hp).length_le
  simp only[Bool.not_true,Bool.false_eq_true,if_false,if_true,aQ]
  rw[fR this]
  rfl
theorem yD (s c:al) (hc:vu (ba c)=true):iE (ba s) (ba c)=some ((ba (s.dropWhile (c.contains ·)),()),()):=by
 rw[Cj]
 show(if vu (ba c)=true then some (((⟨(Lib.trimLeftS (lb (ba s)) (lb (ba c))).toArray⟩:ByteArray),()),()) else none)=_
 rw[if_pos hc,dv,dv]
 rfl
theorem Dp {α:Type} (p:α→Bool) (l:List α):l.take (l.length - (l.dropWhile p).length)=l.takeWhile p∧l.drop (l.length - (l.dropWhile p).length)=l.dropWhile p∧(l.dropWhile p).length≤l.length:=by
 have h:=List.takeWhile_append_dropWhile (p:=p) (l:=l)
 have hl:(l.takeWhile p).length+(l.dropWhile p).length=l.length:=by rw[←List.length_append,h]
 have e:l.length - (l.dropWhile p).length=(l.takeWhile p).length:=by omega
 refine⟨?_,?_,by omega⟩
 ·rw[e]
  have:=List.take_left' (l₁:=l.takeWhile p) (l₂:=l.dropWhile p) rfl
  rw[h] at this
  exact this
 ·rw[e]
  have:=List.drop_left' (l₁:=l.takeWhile p) (l₂:=l.dropWhile p) rfl
  rw[h] at this
  exact this
theorem gG (c:UInt8) (l:al) (a:UInt8):([a]:al).isPrefixOf (c :: l)=decide (c=a):=by
 show(a == c && ([]:al).isPrefixOf l)=_
 rw[show([]:al).isPrefixOf l=true by cases l <;> rfl,Bool.and_true,Bool.eq_iff_iff,beq_iff_eq,decide_eq_true_eq]
 exact eq_comm
theorem F5 (c:UInt8) (t:al):([c]:al).isPrefixOf t=decide (t.head? = some c):=by
 cases t with
 | nil=>rfl
 | cons y t=>rw[gG]; simp
theorem F6 (y:UInt8) (t:al) (a c:UInt8):([a,c]:al).isPrefixOf (y :: t)=(decide (y=a) && decide (t.head? = some c)):=by
 show(a == y && ([c]:al).isPrefixOf t)=_
 rw[F5]
 congr 1
 rw[Bool.eq_iff_iff,beq_iff_eq,decide_eq_true_eq]
 exact eq_comm
theorem F7 (y c:UInt8) {n:Int} (hn:(c.toNat:Int)=n):((y.toNat:Int) == n)=decide (y=c):=by
 rw[Bool.eq_iff_iff,beq_iff_eq,decide_eq_true_eq,←hn]
 constructor
 ·intro e
  apply UInt8.toNat_inj.1
  omega
 ·intro e
  rw[e]
theorem Dq {p:UInt8→Prop} [DecidablePred p] (h : ∀ n:Fin 256,p (UInt8.ofNat n.val)) (c:UInt8):p c:=by
 have:=h ⟨c.toNat,c.toNat_lt⟩
 simpa using this
def fG (c:UInt8):Bool:=decide (65≤c.toNat) && decide (c.toNat≤90)
def dt (c:UInt8):Bool:=decide (48≤c.toNat) && decide (c.toNat≤57)
def bE (a:Nat) (l:al):Nat:=l.foldl (fun a c=>a*10+(c.toNat - 48)) a
theorem Dr (a:Nat) (l:al) (c:UInt8):bE a (l++[c])=bE a l*10+(c.toNat - 48):=by simp[bE]
theorem HS {u:Nat} (h:u < 10):Lib.decDigits u=[UInt8.ofNat (48+u)]:=Lib.decDigits_one h
theorem NJ {u:Nat} (h : ¬u < 10):Lib.decDigits u=Lib.decDigits (u / 10)++[UInt8.ofNat (48+u % 10)]:=by
 rw[Lib.decDigits,dif_neg h]
theorem Tp {x:Nat} (h:x < 10):(UInt8.ofNat (48+x)).toNat=48+x:=by
 rw[UInt8.toNat_ofNat']
 omega
theorem Vp {m x:al} (h:m≠[]):(m++x).head? = m.head? := by
 cases m with
 | nil=>exact absurd rfl h
 | cons a m=>rfl
def ki (l:al):Bool:=l.all dt && decide (1≤l.length) && (decide (l.length=1) || !decide (l.head? = some 48))
theorem NK : ∀(n u:Nat),u≤n→bE 0 (Lib.decDigits u)=u∧ki (Lib.decDigits u)=true∧(10≤u→2≤(Lib.decDigits u).length)∧(1≤u→(Lib.decDigits u).head? ≠ some 48)
 | n,u,hn=>by
  by_cases h:u < 10
  ·rw[HS h]
   have e:=Tp h
   refine⟨by simp[bE]; omega,?_,fun h2=>by omega,fun h1 h2 => ?_⟩
   ·simp only[ki,dt,List.all_cons,List.all_nil,e]
    simp
    omega
   ·simp only[List.head?_cons,Option.some.injEq] at h2
    rw[h2] at e
    have:(48:UInt8).toNat=48:=rfl
    omega
  ·cases n with
   | zero=>omega
   | succ n =>
    obtain⟨h1,h2,h3,h4⟩:=NK n (u / 10) (by omega)
    rw[NJ h,Dr,h1,Tp (Nat.mod_lt _ (by decide))]
    have h4:=h4 (by omega)
    simp only[ki,Bool.and_eq_true,decide_eq_true_eq] at h2
    obtain⟨⟨k1,k2⟩,k3⟩:=h2
    have hne:Lib.decDigits (u / 10)≠[]:=by
     intro e
     rw[e] at k2
     simp at k2
    have hh:(Lib.decDigits (u / 10)++[UInt8.ofNat (48+u % 10)]).head? ≠ some 48:=by
     rw[Vp hne]
     exact h4
    refine⟨by omega,?_,fun _=>by rw[List.length_append,List.length_singleton]; omega,fun _=>hh⟩
    simp only[ki,List.all_append,k1,List.all_cons,List.all_nil,dt,Tp (Nat.mod_lt u (show 0 < 10 by decide)),Bool.and_eq_true,Bool.or_eq_true,decide_eq_true_eq]
    refine⟨⟨by simp; omega,by simp⟩,.inr (by simpa using hh)⟩
theorem rU (u:Nat):bE 0 (Lib.decDigits u)=u:=(NK u u (Nat.le_refl _)).1
theorem wq (u:Nat):ki (Lib.decDigits u)=true:=(NK u u (Nat.le_refl _)).2.1
theorem Rf {c:UInt8} (h:dt c=true):UInt8.ofNat (48+(c.toNat - 48))=c:=by
 simp only[dt,Bool.and_eq_true,decide_eq_true_eq] at h
 have:48+(c.toNat - 48)=c.toNat:=by omega
 rw[this]
 simp
theorem Rg : ∀(l:al),ki l=true→Lib.decDigits (bE 0 l)=l∧(l.head? ≠ some 48→1≤bE 0 l):=by
 intro l
 induction hn:l.length using Nat.strongRecOn generalizing l with
 | ind n ih =>
  intro h
  rcases List.eq_nil_or_concat l with rfl | ⟨m,c,rfl⟩
  ·simp[ki] at h
  ·rw[List.concat_eq_append] at *
   simp only[ki,Bool.and_eq_true,Bool.or_eq_true,decide_eq_true_eq,List.all_append,List.all_cons,List.all_nil,Bool.and_true] at h
   obtain⟨⟨⟨k1,k0⟩,k2⟩,k3⟩:=h
   have kd:48≤c.toNat∧c.toNat≤57:=by simpa[dt] using k0
   rw[Dr]
   by_cases hm:m=[]
   ·subst hm
    have e:bE 0 []*10+(c.toNat - 48)=c.toNat - 48:=by simp[bE]
    rw[e,HS (by omega),Rf k0]
    refine⟨rfl,fun hh => ?_⟩
    have:c.toNat≠48:=by
     intro e
     apply hh
     simp only[List.nil_append,List.head?_cons]
     congr 1
     exact UInt8.toNat_inj.1 e
    omega
   ·have hm1:1≤m.length:=List.length_pos_iff.2 hm
    have hh:(m++[c]).head? = m.head? := Vp hm
    have k4:m.head? ≠ some 48:=by
     rcases k3 with k3 | k3
     ·rw[List.length_append,List.length_singleton] at k3
      omega
     ·rw[hh] at k3
      simpa using k3
    obtain⟨i1,i2⟩:=ih m.length (by rw[←hn,List.length_append,List.length_singleton]; omega) m rfl (by
     simp only[ki,Bool.and_eq_true,Bool.or_eq_true,decide_eq_true_eq]
     exact⟨⟨k1,hm1⟩,.inr (by simpa using k4)⟩)
    have i2:=i2 k4
    refine⟨?_,fun _=>by omega⟩
    rw[NJ (by omega)]
    have e1:(bE 0 m*10+(c.toNat - 48)) / 10=bE 0 m:=by omega
    have e2:(bE 0 m*10+(c.toNat - 48)) % 10=c.toNat - 48:=by omega
    rw[e1,e2,i1,Rf k0]
theorem pg (u:Nat):cP (u:Int)=ba (Lib.decDigits u):=pL u
theorem Ej : ∀(l:al) (a:Nat),l.all dt=true→bE a l < (a+1)*10 ^ l.length
 | [],a,_=>by simp[bE]
 | c :: l,a,h=>by
  simp only[List.all_cons,Bool.and_eq_true] at h
  have kd:48≤c.toNat∧c.toNat≤57:=by simpa[dt] using h.1
  have:=Ej l (a*10+(c.toNat - 48)) h.2
  show bE (a*10+(c.toNat - 48)) l < _
  refine Nat.lt_of_lt_of_le this ?_
  rw[List.length_cons,Nat.pow_succ]
  have:a*10+(c.toNat - 48)+1≤(a+1)*10:=by omega
  calc (a*10+(c.toNat - 48)+1)*10 ^ l.length≤((a+1)*10)*10 ^ l.length:=Nat.mul_le_mul_right _ this
   _=(a+1)*(10 ^ l.length*10):=by rw[Nat.mul_assoc,Nat.mul_comm 10]
inductive dU {α:Type} (L:α→List α):α→α→Prop
 | one {i j:α} (h:j∈L i):dU L i j
 | more {i j k:α} (h:dU L i j) (m:k∈L j):dU L i k
theorem dU.trans {α:Type} {L:α→List α} {i j k:α} (h:dU L i j) (m:dU L j k):dU L i k:=by
 induction m with
 | one e=>exact .more h e
 | more _ e ih=>exact .more ih e
theorem dU.head {α:Type} {L:α→List α} {i j k:α} (h:j∈L i) (m:dU L j k):dU L i k:=dU.trans (.one h) m
theorem dU.inN {α:Type} {L:α→List α} {N:List α} (hN : ∀ i,∀ k∈L i,k∈N) {i j:α} (h:dU L i j):j∈N:=by
 cases h with
 | one e=>exact hN _ _ e
 | more _ e=>exact hN _ _ e
theorem dU.closed {α:Type} {L:α→List α} {Q:α→Prop} {i:α} (h0 : ∀ k∈L i,Q k) (hc : ∀ j,Q j → ∀ k∈L j,Q k) {j:α} (h:dU L i j):Q j:=by
 induction h with
 | one e=>exact h0 _ e
 | more _ e ih=>exact hc _ ih _ e
section
variable {α:Type} {L:α→List α} {N:List α}
open Classical in
noncomputable def yE (L:α→List α) (N:List α) (i:α):Nat:=(N.filter fun j=>decide (dU L i j)).length
open Classical in
theorem NL (hN : ∀ i,∀ k∈L i,k∈N) {i k:α} (hk:k∈L i) (hc : ¬dU L k k):yE L N k < yE L N i:=by
 unfold yE
 refine CG (fun y _ hy => ?_) ⟨k,hN i k hk,decide_eq_true (.one hk),decide_eq_false hc⟩
 exact decide_eq_true (dU.head hk (of_decide_eq_true hy))
theorem Xh (hN : ∀ i,∀ k∈L i,k∈N) {l:List α} (hl:l≠[]) (hc : ∀ i∈l,¬dU L i i) : ∃ i∈l,∀ k∈L i,k ∉ l:=by
 have key : ∀(n:Nat) (i:α),i∈l→yE L N i≤n → ∃ i∈l,∀ k∈L i,k ∉ l:=by
  intro n
  induction n with
  | zero =>
   intro i hi hn
   refine⟨i,hi,fun k hk hkl => ?_⟩
   have:=NL hN hk (hc k hkl)
   omega
  | succ n ih =>
   intro i hi hn
   by_cases h : ∀ k∈L i,k ∉ l
   ·exact⟨i,hi,h⟩
   ·have : ∃ k,k∈L i∧k∈l:=by
     refine Classical.byContradiction fun hh=>h fun k hk hkl=>hh ⟨k,hk,hkl⟩
    obtain⟨k,hk,hkl⟩:=this
    have:=NL hN hk (hc k hkl)
    exact ih k hkl (by omega)
 obtain⟨i,hi⟩:=List.exists_mem_of_ne_nil l hl
 exact key _ i hi (Nat.le_refl _)
end
def jx (a b:ao):Bool:=decide (a.2.1 < b.2.1) || (decide (a.2.1=b.2.1) && decide (a.1 < b.1))
theorem Ds (a b:ao):oY a b=some ((jx a b,()),()):=by
 rw[E2]
 unfold jx
 by_cases h1:a.2.1 < b.2.1
 ·simp[h1]
 ·by_cases h2:a.2.1=b.2.1 <;> simp[h1,h2]
theorem NM {a b c:ao} (h:jx a b=true) (k:jx b c=true):jx a c=true:=by
 simp only[jx,Bool.or_eq_true,Bool.and_eq_true,decide_eq_true_eq] at *
 omega
def tT:Option ao→List ao→Bool
 | _,[]=>true
 | none,b :: l=>tT (some b) l
 | some a,b :: l=>jx a b && tT (some b) l
theorem KL {o:Option ao} {b:ao} {l:List ao}:tT o (b :: l)=((match o with | some a=>jx a b | none=>true) && tT (some b) l):=by
 cases o <;> simp[tT]
theorem Rh : ∀ {l:List ao} {a:ao},tT (some a) l=true→(∀ b∈l,jx a b=true)∧l.Pairwise fun a b=>jx a b=true
 | [],a,_=>⟨fun b hb=>(by cases hb),List.Pairwise.nil⟩
 | b :: l,a,h=>by
  simp only[tT,Bool.and_eq_true] at h
  obtain⟨h1,h2⟩:=Rh h.2
  refine⟨fun c hc => ?_,List.pairwise_cons.2 ⟨h1,h2⟩⟩
  rcases List.mem_cons.1 hc with rfl | hc
  ·exact h.1
  ·exact NM h.1 (h1 c hc)
theorem Vq {l:List ao} (h:tT none l=true):l.Pairwise fun a b=>jx a b=true:=by
 cases l with
 | nil=>exact List.Pairwise.nil
 | cons a l =>
  obtain⟨h1,h2⟩:=Rh (l:=l) (a:=a) h
  exact List.pairwise_cons.2 ⟨h1,h2⟩
def lA (l:List ah):Bool:=decide ((l.length:Int)≤120) && ((l.all fun c=>bS c.1 && ax c.2.1) && tT none (l.map (·.1)))
theorem YF {α:Type} {pre:List α} (h:pre≠[]) : ∃ q p,pre=q++[p]:=⟨pre.dropLast,pre.getLast h,(List.dropLast_concat_getLast h).symm⟩
section
variable {xs:List ah} (hl:xs.length≤10000000) (hs : ∀ c∈xs,c.2.1.2.2.1.size≤9223372036854775807)
include hl hs
theorem Aq : ∀(ys pre:List ah),xs=pre++ys→ml xs (pre.length:Int)=some (((ys.all fun c=>bS c.1 && ax c.2.1) && tT (pre.getLast?.map (·.1)) (ys.map (·.1)),()),())
 | [],pre,he=>by
  rw[xy,aA (bj he)]
  simp[tT]
 | y :: ys,pre,he=>by
  have ih:=Aq ys _ (az he)
  have hy:=hs y (by rw[he]; simp)
  rw[xy,aB (bu he)]
  simp only[br he,mD,fd hy,Option.bind_some,aJ he (by omega),ih]
  simp only[List.all_cons,List.map_cons,KL,List.getLast?_append,List.getLast?_singleton,Option.some_or,Option.map_some]
  cases bS y.1 with
  | false=>simp
  | true =>
   cases ax y.2.1 with
   | false=>simp
   | true =>
    by_cases hp:pre=[]
    ·subst hp
     simp
    ·obtain⟨q,p,rfl⟩:=YF hp
     have hq:xs=q++p :: (y :: ys):=by rw[he]; simp
     have hw:(((q++[p]).length:Nat):Int) - 1=(q.length:Int):=by simp
     have h0:((q++[p]).length:Int) > 0:=by rw[List.length_append,List.length_singleton]; omega
     simp only[hw,decide_eq_true h0,if_true,Bool.not_true,Bool.false_eq_true,if_false]
     rw[fE (by omega) (by have:=bu hq; omega),br hq,Ds,Option.bind_some]
     simp only[List.getLast?_append,List.getLast?_singleton,Option.some_or,Option.map_some,Bool.true_and]
     cases jx p.1 y.1 <;> simp
theorem NN:CX xs=some ((lA xs,()),()):=by
 rw[Nn]
 unfold lA
 by_cases h:(xs.length:Int) > 120
 ·rw[aB h,decide_eq_false (by omega)]
  rfl
 ·rw[aA h,decide_eq_true (by omega)]
  have:=Aq hl hs xs [] rfl
  simpa using this
end
theorem Tq {a b:ao}:(bp ap a b=true)=(a=b):=propext (nh rfl)
def fJ:List ah→ao→ab
 | [],_=>v0
 | c :: l,r=>if c.1=r then c.2.1 else fJ l r
section
variable {xs:List ah} (hl:xs.length≤10000000)
include hl
theorem HT {r:ao} {a b:Int} {s:ByteArray} : ∀(ys pre:List ah),xs=pre++ys→Bc xs (pre.length:Int) r.1 r.2.1 a b s=some ((fJ ys r,()),())
 | [],pre,he=>by
  rw[E4,aA (bj he)]
  rfl
 | y :: ys,pre,he=>by
  rw[E4,aB (bu he),br he,br he,aJ he (by omega),HT ys _ (az he)]
  show(if bp ap y.1 r=true then _ else _)=_
  rw[fJ]
  by_cases h:y.1=r
  ·rw[if_pos (by rw[Tq]; exact h),if_pos h]
  ·rw[if_neg (by rw[Tq]; exact h),if_neg h]
theorem NO (r:ao):LX xs r=some ((fJ xs r,()),()):=by
 rw[WV]
 exact HT hl xs [] rfl
theorem Dt {r:ao} {a b:Int} {s:ByteArray} : ∀(ys pre:List ah),xs=pre++ys→uO xs (xs.length:Int) (pre.length:Int) r.1 r.2.1 a b s=some ((fJ ys r,()),())
 | [],pre,he=>by
  rw[B8,aA (bj he)]
  rfl
 | y :: ys,pre,he=>by
  rw[B8,aB (bu he),br he,aJ he (by omega),Dt ys _ (az he)]
  show(if bp ap y.1 r=true then _ else _)=_
  rw[fJ]
  by_cases h:y.1=r
  ·rw[if_pos (by rw[Tq]; exact h),if_pos h]
  ·rw[if_neg (by rw[Tq]; exact h),if_neg h]
theorem Ts (r:ao):IK xs r=some ((fJ xs r,()),()):=by
 rw[SZ]
 exact Dt hl xs [] rfl
end
theorem NP:ax v0=true:=by decide
theorem F8 : ∀ {l:List ah} {r:ao},(∀ c∈l,ax c.2.1=true)→ax (fJ l r)=true
 | [],r,_=>NP
 | c :: l,r,h=>by
  unfold fJ
  split
  ·exact h c (List.mem_cons_self ..)
  ·exact F8 fun d hd=>h d (List.mem_cons_of_mem _ hd)
theorem pM {l:List ah} (h:lA l=true) : ∀ c∈l,ax c.2.1=true:=by
 unfold lA at h
 simp only[Bool.and_eq_true,List.all_eq_true] at h
 exact fun c hc=>(h.2.1 c hc).2
theorem oJ {n:Int} (h0:1≤n) (h1:n≤5):ax (vE n)=true:=by
 unfold ax vE
 simp[cg]
 omega
theorem Du {n:Int} (h0 : -1000000000000000≤n) (h1:n≤1000000000000000):ax (vN n)=true:=by
 unfold ax vN
 simp[cg]
 omega
theorem Yd (b:Bool):ax (vB b)=true:=by cases b <;> decide
theorem Tt (n:Int):ax (bnd n)=true:=by
 unfold bnd
 split
 ·have:=bw.1 ‹_›
  exact Du this.1 this.2
 ·exact oJ (by decide) (by decide)
theorem uW (v:ab):ax (gT v)=true:=by
 unfold gT
 split
 ·split
  ·assumption
  ·exact oJ (by decide) (by decide)
 ·exact oJ (by decide) (by decide)
theorem LZ {f:Int→Int→ab} (hf : ∀ x y,ax (f x y)=true) (a b:ab):ax (ry f a b)=true:=by
 unfold ry
 split
 ·split
  ·exact hf _ _
  ·exact uW _
 ·exact uW _
theorem HU (a b:ab):ax (jM a b)=true:=LZ (fun _ _=>Tt _) a b
theorem Ye (a b:ab):ax (Bs a b)=true:=LZ (fun _ _=>Tt _) a b
theorem aaj (a b:ab):ax (I8 a b)=true:=LZ (fun x y=>by
 unfold Tg
 split
 ·exact Du (by omega) (by omega)
 ·exact oJ (by decide) (by decide)) a b
theorem aak (a b:ab):ax (I6 a b)=true:=LZ (fun x y=>by
 split
 ·exact oJ (by decide) (by decide)
 ·exact Tt _) a b
theorem aal (a:ab):ax (F3 a)=true:=Ye _ _
theorem Vr : ∀(n u:Nat),u≤n → ∀ b∈Lib.decDigits u,48≤b.toNat∧b.toNat≤57:=by
 intro n
 induction n with
 | zero =>
  intro u h b hb
  rw[Lib.decDigits,dif_pos (by omega)] at hb
  rw[List.mem_singleton.1 hb]
  have:u=0:=by omega
  subst this
  decide
 | succ n ih =>
  intro u h b hb
  rw[Lib.decDigits] at hb
  split at hb
  ·rename_i h10
   rw[List.mem_singleton.1 hb]
   simp only[UInt8.toNat_ofNat']
   omega
  ·rcases List.mem_append.1 hb with hb | hb
   ·exact ih (u / 10) (by omega) b hb
   ·rw[List.mem_singleton.1 hb]
    simp only[UInt8.toNat_ofNat']
    omega
theorem ZF (l:List UInt8):nv ⟨l.toArray⟩=l.map fun b=>(b.toNat:Int):=by simp[nv]
theorem Tu (n:Int):plain (cP n)=true:=by
 have hu : ∀ u:Nat,plain ⟨(Lib.decDigits u).toArray⟩=true:=by
  intro u
  unfold plain
  rw[ZF,List.all_eq_true]
  intro x hx
  obtain⟨b,hb,rfl⟩:=List.mem_map.1 hx
  have:=Vr u u (Nat.le_refl _) b hb
  unfold tA
  simp
  omega
 by_cases h:n < 0
 ·rw[xR h,show -n=((-n).toNat:Int) by omega,pL]
  have:=hu (-n).toNat
  unfold plain at this ⊢
  rw[Hl,List.all_append,this]
  decide
 ·rw[show n=(n.toNat:Int) by omega,pL]
  exact hu _
theorem KM {a b:ByteArray}:plain (a++b)=(plain a && plain b):=by
 unfold plain
 rw[Hl,List.all_append]
theorem Tv (n:Int):plain (cY n)=true:=by
 have h : ∀ i:Nat,i < 6→plain (Xc.getD i eS)=true:=by decide
 unfold cY
 by_cases hn:n.toNat < 6
 ·exact h _ hn
 ·rw[List.getD_eq_getElem?_getD,List.getElem?_eq_none (by show 6≤n.toNat; omega)]
  decide
theorem NQ {v:ab} (h:ax v=true) (k:v.1=2):v.2.1=0∧plain v.2.2.1=true∧v.2.2.1.size≤200:=by
 unfold ax at h
 rw[if_pos k] at h
 simp only[Bool.and_eq_true,decide_eq_true_eq] at h
 exact⟨h.1,h.2.1,by omega⟩
theorem HV {v:ab} (h:ax v=true):plain (bG v)=true:=by
 unfold bG
 split
 ·exact Tu _
 ·split
  ·rw[KM,(NQ h ‹_›).2.1]
   decide
  ·split
   ·unfold xS
    split <;> decide
   ·split
    ·exact Tv _
    ·decide
theorem KN {v:ab} (h:ax v=true):plain (ra v)=true:=by
 unfold ra
 split
 ·exact(NQ h ‹_›).2.1
 ·exact HV h
theorem okT {s:ByteArray} (h:plain s=true) (k:s.size≤200):ax (vT s)=true:=by
 unfold ax vT
 simp[h]
 omega
theorem ZG (a b:ab):ax (Bx a b)=true:=by
 unfold Bx
 split
 ·split
  ·split
   ·exact oJ (by decide) (by decide)
   ·rename_i h1 h2 h3
    refine okT ?_ (by rw[size_append]; omega)
    rw[KM,KN (vc h1),KN (vc h2)]
    rfl
  ·exact uW _
 ·exact uW _
theorem ZH (op:Int) (a b:ab):ax (Bz op a b)=true:=by
 unfold Bz
 split
 ·split
  ·split
   ·split
    ·assumption
    ·split
     ·assumption
     ·exact Yd _
   ·exact oJ (by decide) (by decide)
  ·exact oJ (by decide) (by decide)
 ·exact oJ (by decide) (by decide)
def eX (v:ab):Bool:=ax v && (decide (v.1=0) || decide (v.1=1) || decide (v.1=3))
theorem sS {v:ab} (h:v.2.2.1.size≤9223372036854775807):pb v=some ((decide (v.2.1≠0),eX v,()),()):=by
 rw[P4]
 unfold eX
 simp only[fe h,Option.bind_some,beq_iff_eq]
 have hb:(v.2.1 != 0)=decide (v.2.1≠0):=by by_cases h:v.2.1=0 <;> simp[h]
 rw[hb]
 cases ax v
 ·rfl
 ·by_cases h0:v.1=0
  ·simp[h0]
  ·by_cases h1:v.1=1
   ·simp[h1]
   ·simp[h0,h1,pf]
theorem uX {v:ab} (h:ax v=true):pD v=some ((if eX v=true then decide (v.2.1≠0) else false,if eX v=true then v0 else gT v,()),()):=by
 rw[SG]
 unfold eX gT
 simp only[dA,Option.bind_some,beq_iff_eq,h,if_true,Bool.true_and]
 rcases uV h with k | k | k | k | k
 ·have:v.2.1=0:=by
   unfold ax at h
   rw[if_neg (by omega),if_pos k] at h
   simp only[Bool.and_eq_true,decide_eq_true_eq] at h
   exact h.2
  simp[k,this,v0]
 ·have hb:(v.2.1 != 0)=decide (v.2.1≠0):=by by_cases h:v.2.1=0 <;> simp[h]
  simp[k,hb,v0]
 ·simp[k]
 ·have:=Ao h k
  have:v.2.1=0∨v.2.1=1:=by omega
  rcases this with h1 | h1 <;> simp[k,h1,v0]
 ·simp[k]
def Dv (a:Bool):List ab→Bool→Bool→ab
 | [],all,one=>vB (if a=true then all else one)
 | v :: l,all,one=>if eX v=true then Dv a l (all && decide (v.2.1≠0)) (one || decide (v.2.1≠0)) else gT v
def wt:List ab→ab→ab
 | [],s=>s
 | v :: l,s=>if v.1=4 then v else if v.1=1 then(if(jM s v).1=4 then jM s v else wt l (jM s v)) else wt l s
def nL (op:Int):List ab→Int→Int→Int→ab
 | [],l,m,c=>if op=2 then vN l else if op=3 then vN m else vN c
 | v :: t,l,m,c=>if v.1=4∧op≠4 then v else if v.1=1 then(if c=0 then nL op t v.2.1 v.2.1 1 else nL op t (if v.2.1 < l then v.2.1 else l) (if m < v.2.1 then v.2.1 else m) (c+1)) else nL op t l m c
theorem NR (a:Bool) (v:ab) (l:List ab) (all one:Bool):Dv a (v :: l) all one=if eX v=true then Dv a l (all && decide (v.2.1≠0)) (one || decide (v.2.1≠0)) else gT v:=rfl
theorem KO (v:ab) (l:List ab) (s:ab):wt (v :: l) s=if v.1=4 then v else if v.1=1 then(if(jM s v).1=4 then jM s v else wt l (jM s v)) else wt l s:=rfl
theorem KP (op:Int) (v:ab) (t:List ab) (l m c:Int):nL op (v :: t) l m c=if v.1=4∧op≠4 then v else if v.1=1 then(if c=0 then nL op t v.2.1 v.2.1 1 else nL op t (if v.2.1 < l then v.2.1 else l) (if m < v.2.1 then v.2.1 else m) (c+1)) else nL op t l m c:=rfl
section
variable {xs:List ab} (hl:xs.length≤100000000) (hv : ∀ v∈xs,ax v=true)
include hl hv
theorem Ar {op:Int} {p q:Int} {s:ByteArray} : ∀(ys pre:List ab) (all one:Bool),xs=pre++ys→iL op all one xs (xs.length:Int) (pre.length:Int) p q s=some ((Dv (decide (op=6)) ys all one,()),())
 | [],pre,all,one,he=>by
  rw[xB,aA (bj he)]
  by_cases h:op=6 <;> simp[h,tB,Dv]
 | y :: ys,pre,all,one,he=>by
  have hy:=hv y (by rw[he]; simp)
  rw[xB,aB (bu he),br he,sS (co hy),Option.bind_some,aJ he (by omega)]
  simp only[Ar ys _ _ _ (az he),fY (co hy),Option.bind_some]
  rw[NR]
  cases eX y
  ·simp
  ·cases all <;> cases one <;> simp
theorem NS (op:Int):kp op xs=some ((Dv (decide (op=6)) xs true false,()),()):=by
 rw[Nx]
 exact Ar hl hv xs [] true false rfl
theorem wu {p q:Int} {u:ByteArray} : ∀(ys pre:List ab) (s:ab),xs=pre++ys→ax s=true→s.1≠4→qV xs (xs.length:Int) (pre.length:Int) p q u s.1 s.2.1 s.2.2.1=some ((wt ys s,()),())
 | [],pre,s,he,hs,h4=>by
  rw[B9,aA (bj he)]
  rfl
 | y :: ys,pre,s,he,hs,h4=>by
  have hy:=hv y (by rw[he]; simp)
  rw[B9,aB (bu he),br he,aJ he (by omega)]
  show(if(y.1 == 4)=true then _ else if(y.1 == 1)=true then(M3 s y).bind _ else _)=_
  rw[Rb (co hs) (co hy),Option.bind_some]
  rw[KO]
  by_cases k4:y.1=4
  ·simp[k4]
  ·by_cases k1:y.1=1
   ·by_cases ka:(jM s y).1=4
    ·simp[k1,ka]
    ·simp only[k1,ka,beq_iff_eq,if_true,if_false]
     rw[if_neg (by decide),if_neg (by decide)]
     exact wu ys _ (jM s y) (az he) (HU _ _) ka
   ·simp only[k4,k1,h4,beq_iff_eq,if_false]
    exact wu ys _ s (az he) hs h4
theorem Tw:pH xs=some ((wt xs (vN 0),()),()):=by
 rw[S4,jw,Option.bind_some]
 exact wu hl hv xs [] (vN 0) rfl (Du (by decide) (by decide)) (by decide)
theorem Au {op:Int} {p q:Int} {u:ByteArray} : ∀(ys pre:List ab) (l m c:Int),xs=pre++ys→0≤c→c≤pre.length→fj op l m c xs (xs.length:Int) (pre.length:Int) p q u=some ((nL op ys l m c,()),())
 | [],pre,l,m,c,he,h0,h1=>by
  rw[xC,aA (bj he)]
  unfold nL
  by_cases h2:op=2
  ·simp[h2,jw]
  ·by_cases h3:op=3 <;> simp[h2,h3,jw]
 | y :: ys,pre,l,m,c,he,h0,h1=>by
  have hlt:=bu he
  have ih:=fun l m c h0 h1=>Au (op:=op) (p:=p) (q:=q) (u:=u) ys _ l m c (az he) h0 h1
  rw[xC,aB hlt,br he,aJ he (by omega)]
  rw[wr (n:=c+1) (by omega) (by omega)]
  have hp:((pre++[y]).length:Int)=pre.length+1:=by simp
  generalize ((pre++[y]).length:Int)=w at ih hp ⊢
  rw[KP]
  simp only[beq_iff_eq,bne_iff_ne,ne_eq]
  by_cases hc:c=0
  ·subst hc
   have e1:=ih y.2.1 y.2.1 1 (by decide) (by omega)
   have e2:=ih l m 0 (by decide) (by omega)
   by_cases k4:y.1=4
   ·by_cases o4:op=4
    ·simp[k4,o4]
     rw[←o4]
     exact e2
    ·simp[k4,o4]
   ·by_cases k1:y.1=1
    ·simp[k1]
     exact e1
    ·simp[k4,k1]
     exact e2
  ·have e1:=ih (if y.2.1 < l then y.2.1 else l) (if m < y.2.1 then y.2.1 else m) (c+1) (by omega) (by omega)
   have e2:=ih l m c h0 (by omega)
   by_cases k4:y.1=4
   ·by_cases o4:op=4
    ·simp[k4,o4]
     rw[←o4]
     exact e2
    ·simp[k4,o4]
   ·by_cases k1:y.1=1
    ·simp[k1,hc]
     exact e1
    ·simp[k4,k1]
     exact e2
theorem NT (op:Int):kq op xs=some ((nL op xs 0 0 0,()),()):=by
 rw[Ny]
 exact Au hl hv xs [] 0 0 0 rfl (by decide) (by decide)
theorem NU {op:Int} (ho:op=6∨op=7) {p q c k n:Int} {u t:ByteArray} : ∀(ys pre:List ab) (all one:Bool),xs=pre++ys→bo op xs c all one (pre.length:Int) p q u k n t=some ((Dv (decide (op=6)) ys all one,()),())
 | [],pre,all,one,he=>by
  rw[ji,aA (bj he)]
  rcases ho with rfl | rfl <;> simp[uR,Dv]
 | y :: ys,pre,all,one,he=>by
  have hy:=hv y (by rw[he]; simp)
  have ih:=fun all one=>NU ho (p:=p) (q:=q) (c:=c) (k:=k) (n:=n) (u:=u) (t:=t) ys _ all one (az he)
  rw[ji,aB (bu he),br he,uX hy,Option.bind_some,aJ he (by omega)]
  simp only[ih]
  rw[NR]
  rcases ho with rfl | rfl
  ·cases it:eX y
   ·have:=dk y
    simp[this]
   ·cases all <;> cases one <;> simp[v0]
  ·cases it:eX y
   ·have:=dk y
    simp[this]
   ·cases all <;> cases one <;> simp[v0]
theorem F9 {p q:Int} {u:ByteArray} : ∀(ys pre:List ab) (s:ab) (c:Int),xs=pre++ys→ax s=true→0≤c→c≤pre.length→bo 1 xs c true false (pre.length:Int) p q u s.1 s.2.1 s.2.2.1=some ((wt ys s,()),())
 | [],pre,s,c,he,hs,c0,c1=>by
  rw[ji,aA (bj he)]
  rfl
 | y :: ys,pre,s,c,he,hs,c0,c1=>by
  have hlt:=bu he
  have hy:=hv y (by rw[he]; simp)
  rw[ji,aB hlt,br he,aJ he (by omega),wr (n:=c+1) (by omega) (by omega)]
  have hsy:FO (s.1,s.2.1,s.2.2.1,()) y=some ((jM s y,()),()):=I7 (co hs) (co hy)
  have e2:=F9 (p:=p) (q:=q) (u:=u) ys _ s c (az he) hs c0 (by rw[List.length_append,List.length_singleton]; omega)
  have e1:=F9 (p:=p) (q:=q) (u:=u) ys _ (jM s y) (c+1) (az he) (HU _ _) (by omega) (by rw[List.length_append,List.length_singleton]; omega)
  simp only[hsy,Option.bind_some,e1,e2]
  rw[KO]
  by_cases k4:y.1=4
  ·simp[k4]
  ·by_cases k1:y.1=1
   ·by_cases ka:(jM s y).1=4 <;> simp[k1,ka]
   ·simp[k4,k1]
theorem Xi {v:ab} (h:ax v=true) (k:v.1=1):v=vN v.2.1:=by
 unfold ax at h
 rw[if_neg (by omega)] at h
 simp only[Bool.and_eq_true,decide_eq_true_eq] at h
 obtain⟨a,b,c,⟨⟩⟩:=v
 simp only at h k
 rw[k,h.1]
 rfl
set_option maxHeartbeats 2000000 in
theorem NV {op:Int} (ho:op=2∨op=3∨op=4) {p q:Int} {u:ByteArray} : ∀(ys pre:List ab) (l m c n:Int),xs=pre++ys→0≤c→c≤pre.length→c≤1000000000→(op=2→n=l)→(op=3→n=m)→bo op xs c true false (pre.length:Int) p q u 1 n eS=some ((nL op ys l m c,()),())
 | [],pre,l,m,c,n,he,h0,h1,h9,n2,n3=>by
  rw[ji,aA (bj he)]
  unfold nL
  rcases ho with rfl | rfl | rfl
  ·rw[n2 rfl]
   rfl
  ·rw[n3 rfl]
   rfl
  ·have:bnd c=vN c:=by
    unfold bnd
    rw[if_pos (bw.2 (by omega))]
   simp[kt,this]
 | y :: ys,pre,l,m,c,n,he,h0,h1,h9,n2,n3=>by
  have hlt:=bu he
  have hy:=hv y (by rw[he]; simp)
  have hp:((pre++[y]).length:Int)=pre.length+1:=by simp
  have ih:=fun l m c n h0 h1 h9 n2 n3=>NV ho (p:=p) (q:=q) (u:=u) ys _ l m c n (az he) h0 h1 h9 n2 n3
  rw[ji,aB hlt,br he,aJ he (by omega),wr (n:=c+1) (by omega) (by omega)]
  generalize ((pre++[y]).length:Int)=w at ih hp ⊢
  rw[KP]
  simp only[beq_iff_eq,bne_iff_ne,ne_eq]
  by_cases k4:y.1=4
  ·rcases ho with rfl | rfl | rfl
   ·simp[k4]
   ·simp[k4]
   ·simp[k4]
    exact ih l m c n h0 (by omega) h9 (by simp) (by simp)
  ·by_cases k1:y.1=1
   ·have hyv:=Xi hl hv hy k1
    have hyS:y.2.2.1=eS:=by rw[hyv]; rfl
    simp only[k1,hyS,not_true,if_false,if_true]
    by_cases hc:c=0
    ·subst hc
     rcases ho with rfl | rfl | rfl
     ·simp
      exact ih y.2.1 y.2.1 1 y.2.1 (by decide) (by omega) (by decide) (fun _=>rfl) (by simp)
     ·simp
      exact ih y.2.1 y.2.1 1 y.2.1 (by decide) (by omega) (by decide) (by simp) (fun _=>rfl)
     ·simp
      exact ih y.2.1 y.2.1 1 y.2.1 (by decide) (by omega) (by decide) (by simp) (by simp)
    ·have hc1 : ¬c+1=1:=by omega
     rcases ho with rfl | rfl | rfl
     ·have:=n2 rfl
      subst this
      by_cases hlt2:y.2.1 < n
      ·simp[hc,hc1,hlt2]
       exact ih _ _ (c+1) y.2.1 (by omega) (by omega) (by omega) (fun _=>rfl) (by simp)
      ·simp[hc,hc1,hlt2]
       exact ih _ _ (c+1) n (by omega) (by omega) (by omega) (fun _=>rfl) (by simp)
     ·have:=n3 rfl
      subst this
      by_cases hlt2:n < y.2.1
      ·simp[hc,hc1,hlt2]
       exact ih _ _ (c+1) y.2.1 (by omega) (by omega) (by omega) (by simp) (fun _=>rfl)
      ·simp[hc,hc1,hlt2]
       exact ih _ _ (c+1) n (by omega) (by omega) (by omega) (by simp) (fun _=>rfl)
     ·simp[hc,hc1]
      exact ih _ _ (c+1) n (by omega) (by omega) (by omega) (by simp) (by simp)
   ·rcases ho with rfl | rfl | rfl <;> simp[k4,k1]
    ·exact ih l m c n h0 (by omega) h9 n2 (by simp)
    ·exact ih l m c n h0 (by omega) h9 (by simp) n3
    ·exact ih l m c n h0 (by omega) h9 (by simp) (by simp)
def Ek (op:Int) (xs:List ab):ab:=if op=6∨op=7 then Dv (decide (op=6)) xs true false else if op=1 then wt xs (vN 0) else nL op xs 0 0 0
theorem Tx {op:Int} (ho:op=1∨op=2∨op=3∨op=4∨op=6∨op=7):II op xs=some ((Ek op xs,()),()):=by
 rw[SK]
 unfold Ek
 by_cases h6:op=6∨op=7
 ·rw[if_pos h6]
  exact NU hl hv h6 xs [] true false rfl
 ·rw[if_neg h6]
  by_cases h1:op=1
  ·subst h1
   exact F9 hl hv xs [] (vN 0) 0 rfl (Du (by decide) (by decide)) (by decide) (by decide)
  ·rw[if_neg h1]
   exact NV hl hv (by omega) xs [] 0 0 0 0 rfl (by decide) (by decide) (by decide) (fun _=>rfl) (fun _=>rfl)
end
theorem Vs {a:Bool} : ∀ {l:List ab} {p q:Bool},ax (Dv a l p q)=true
 | [],p,q=>Yd _
 | v :: l,p,q=>by
  unfold Dv
  split
  ·exact Vs
  ·exact uW _
theorem Jb : ∀ {l:List ab} {s:ab},(∀ v∈l,ax v=true)→ax s=true→ax (wt l s)=true
 | [],s,_,h=>h
 | v :: l,s,hv,h=>by
  unfold wt
  split
  ·exact hv v (List.mem_cons_self ..)
  ·split
   ·split
    ·exact HU _ _
    ·exact Jb (fun w hw=>hv w (List.mem_cons_of_mem _ hw)) (HU _ _)
   ·exact Jb (fun w hw=>hv w (List.mem_cons_of_mem _ hw)) h
theorem El {op:Int} : ∀ {t:List ab} {l m c:Int},(∀ v∈t,ax v=true)→(-1000000000000000≤l∧l≤1000000000000000)→(-1000000000000000≤m∧m≤1000000000000000)→(0≤c∧c+t.length≤1000000000000000)→ax (nL op t l m c)=true
 | [],l,m,c,hv,hl,hm,hc=>by
  unfold nL
  simp only[List.length_nil] at hc
  split
  ·exact Du hl.1 hl.2
  ·split
   ·exact Du hm.1 hm.2
   ·exact Du (by omega) (by omega)
 | v :: t,l,m,c,hv,hl,hm,hc=>by
  have hvv:=hv v (List.mem_cons_self ..)
  have hvt:=fun w hw=>hv w (List.mem_cons_of_mem _ hw)
  simp only[List.length_cons] at hc
  unfold nL
  split
  ·exact hvv
  ·split
   ·have:=rT hvv ‹_›
    split
    ·exact El hvt this this (by omega)
    ·refine El hvt ?_ ?_ (by omega)
     ·split <;> omega
     ·split <;> omega
   ·exact El hvt hl hm (by omega)
theorem Xj {op:Int} {xs:List ab} (hv : ∀ v∈xs,ax v=true) (hl:xs.length≤100000000):ax (Ek op xs)=true:=by
 unfold Ek
 split
 ·exact Vs
 ·split
  ·exact Jb hv (Du (by decide) (by decide))
  ·exact El hv (by decide) (by decide) (by omega)
end Go.Proofs.YteaahciglahehaaGreatDoor.Abs
