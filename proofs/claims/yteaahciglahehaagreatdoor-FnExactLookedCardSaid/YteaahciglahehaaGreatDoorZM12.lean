/- Plain laws: values that are told as they would be reckoned; values of cells that are moved. -/
import Derived.Test.YteaahciglahehaaGreatDoorZM11
import Derived.Test.YteaahciglahehaaGreatDoorZM9
import Derived.Test.YteaahciglahehaaGreatDoorZM10
import Derived.Test.YteaahciglahehaaGreatDoorZM6
set_option linter.unusedVariables false
set_option linter.unusedSimpArgs false
set_option linter.unusedSectionVars false
namespace Go.Proofs.YteaahciglahehaaGreatDoor.Abs
open Go
section
variable {s:List ae} (hs:bz s=true)
include hs
theorem JD {i:Nat} (hi:i < s.length):ax (DM s i)=true:=RF hs (fun _ _=>NP) hi
end
theorem Zd {x:ByteArray} (h:fL x=true) (h61:(lb x).head? = some 61) : ∃ f,cR x=some f∧iX (ba ((lb x).drop 1))=(f,true):=by
 have hsz:=BM h
 have hw:(lb x).length≤9223372036854775807:=by rw[jk]; omega
 obtain⟨h1,h2,h3⟩:=DE.1 h
 have hb:=Rs hw
 rw[d9] at hb
 have h4:(wD (lb x)).2=true:=by
  rw[hb] at h1
  exact h1
 have hne:lb x≠[]:=by
  intro e
  rw[e] at h61
  cases h61
 have hp:((lb x).all AB && decide ((lb x).length≤200))=true:=by
  cases hp:((lb x).all AB && decide ((lb x).length≤200)) with
  | true=>rfl
  | false =>
   have e:wD (lb x)=([],false):=by
    unfold wD
    rw[if_neg hne,hp,if_pos rfl]
   rw[e] at h4
   cases h4
 have e:=Rt hne hp
 rw[if_pos h61] at e
 dsimp only at e
 have hr:(iX (ba ((lb x).drop 1))).2=true:=by
  by_cases hr:(iX (ba ((lb x).drop 1))).2=true∧kO (iX (ba ((lb x).drop 1))).1≠[]∧(kO (iX (ba ((lb x).drop 1))).1).length < 200
  ·exact hr.1
  ·rw[if_neg hr] at e
   rw[e] at h4
   cases h4
 refine⟨(iX (ba ((lb x).drop 1))).1,?_,Prod.ext rfl hr⟩
 unfold cR
 rw[if_pos ⟨h61,hr⟩]
noncomputable def jQ (x:ByteArray):Bool:=fL ((⟨#[61]⟩:ByteArray)++x)
theorem aaI (x:ByteArray):(⟨#[61]⟩:ByteArray)++x=ba (61 :: lb x):=by
 rw[show(⟨#[61]⟩:ByteArray)=ba [61] from rfl]
 conv=>lhs; rw[←d9 x]
 rw[k9]
 rfl
theorem JE (x:ByteArray):((⟨#[61]⟩:ByteArray)++x).size=x.size+1:=by
 rw[ByteArray.size_append]
 show 1+x.size=_
 omega
section
variable {x:ByteArray} (hx:x.size≤1000000000)
include hx
theorem LO:m9 x=some ((jQ x,()),()):=by
 have h1:(⟨#[61]⟩:ByteArray).size=1:=rfl
 rw[LG,fy (by omega),rj (by rw[JE]; omega)]
 rfl
theorem JF:fa x=some ((jQ x,()),()):=by
 have h1:(⟨#[61]⟩:ByteArray).size=1:=rfl
 have hne:(⟨#[61]⟩:ByteArray)++x≠eS:=by
  intro e
  have:=congrArg ByteArray.size e
  rw[JE] at this
  cases this
 rw[IQ,fy (by omega),(wC (x:=(⟨#[61]⟩:ByteArray)++x) (by rw[JE]; omega)).2.1,Option.bind_some,fy (by omega)]
 unfold jQ fL
 cases (hZ ((⟨#[61]⟩:ByteArray)++x)).2 with
 | false=>rfl
 | true =>
  dsimp only
  rw[if_pos rfl,eqD,decide_eq_false hne]
  rfl
end
theorem AD {t:ByteArray} (h:jQ t=true) : ∃ f,cR ((⟨#[61]⟩:ByteArray)++t)=some f∧iX t=(f,true)∧fF f=true∧t.size≤199:=by
 have hsz:=BM h
 rw[JE] at hsz
 have e:lb ((⟨#[61]⟩:ByteArray)++t)=61 :: lb t:=by rw[aaI,dv]
 obtain⟨f,h1,h2⟩:=Zd h (by rw[e]; rfl)
 rw[e,List.drop_succ_cons,List.drop_zero,d9] at h2
 exact⟨f,h1,h2,kP h1 (by rw[JE]; omega),by omega⟩
noncomputable def pn (x:aV) (a b:Int):Bool :=
 if x.1=1 then bS x.2.1 && jQ x.2.2.1 && decide (x.2.2.2.1=0)
 else if x.1=2 then bS x.2.1 && OQ x.2.2.1 && decide (x.2.2.2.1=0)
 else if x.1=3 then decide (x.2.1=(0,0,())) && jQ x.2.2.1 && cg x.2.2.2.1 1 b
 else if x.1=4 then decide (x.2.1=(0,0,())) && jQ x.2.2.1 && cg x.2.2.2.1 1 a
 else if x.1=5 then decide (x.2.1=(0,0,())) && jQ x.2.2.1 && decide (x.2.2.2.1=0)
 else false
theorem Z9 (a b:ao):bp ap a b=decide (a=b):=by
 rw[Bool.eq_iff_iff,decide_eq_true_eq]
 exact nh rfl
section
variable {x:aV} (hx:x.2.2.1.size≤1000000000)
include hx
theorem XY (a b:Int):vG x a b=some ((pn x a b,()),()):=by
 rw[Hz]
 unfold pn
 simp only[tz,LO hx,rj (show x.2.2.1.size≤9223372036854775807 by omega),ge,Option.bind_some,eqE,Z9,pf,decide_eq_true_eq]
 by_cases h1:x.1=1
 ·rw[if_pos h1,if_pos h1]
  cases bS x.2.1 <;> cases jQ x.2.2.1 <;> simp
 ·rw[if_neg h1,if_neg h1]
  by_cases h2:x.1=2
  ·rw[if_pos h2,if_pos h2]
   unfold OQ
   cases bS x.2.1 <;> by_cases he:x.2.2.1=eS <;> cases fL x.2.2.1 <;> simp[he]
  ·rw[if_neg h2,if_neg h2]
   by_cases h3:x.1=3
   ·rw[if_pos h3,if_pos h3]
    by_cases he:x.2.1=(0,0,()) <;> cases jQ x.2.2.1 <;> simp[he]
   ·rw[if_neg h3,if_neg h3]
    by_cases h4:x.1=4
    ·rw[if_pos h4,if_pos h4]
     by_cases he:x.2.1=(0,0,()) <;> cases jQ x.2.2.1 <;> simp[he]
    ·rw[if_neg h4,if_neg h4]
     by_cases h5:x.1=5
     ·rw[if_pos h5,if_pos h5]
      by_cases he:x.2.1=(0,0,()) <;> cases jQ x.2.2.1 <;> simp[he]
     ·rw[if_neg h5,if_neg h5]
end
noncomputable def yO (n:Int):Int→List aV→Bool
 | _,[]=>true
 | i,x :: l=>pn x i (n - 1 - i) && yO n (i+1) l
noncomputable def jC (m:List aV):Bool:=yO m.length 0 m && decide (m.length≤30)
theorem RM {n:Int} : ∀ {l:List aV} {i:Int},yO n i l=true → ∀(k:Nat) (x:aV),l[k]? = some x→pn x (i+k) (n - 1 - (i+k))=true
 | [],i,_,k,x,h=>by simp at h
 | y :: l,i,hm,k,x,h=>by
  unfold yO at hm
  rw[Bool.and_eq_true] at hm
  cases k with
  | zero =>
   simp only[List.getElem?_cons_zero,Option.some.injEq] at h
   subst h
   have e:i+((0:Nat):Int)=i:=by omega
   rw[e]
   exact hm.1
  | succ k =>
   simp only[List.getElem?_cons_succ] at h
   have:=RM hm.2 k x h
   have e:i+1+(k:Int)=i+((k+1:Nat):Int):=by omega
   rw[e] at this
   exact this
theorem XZ {m:List aV} (h:jC m=true) {k:Nat} {x:aV} (hx:m[k]? = some x):pn x k ((m.length:Int) - 1 - k)=true:=by
 unfold jC at h
 rw[Bool.and_eq_true] at h
 have:=RM h.1 k x hx
 have e:(0:Int)+(k:Int)=(k:Int):=by omega
 rw[e] at this
 exact this
theorem Le {m:List aV} (h:jC m=true):m.length≤30:=by
 unfold jC at h
 rw[Bool.and_eq_true,decide_eq_true_eq] at h
 exact h.2
section
variable {m:List aV} (hm:m.length≤2000000) (hs : ∀ x∈m,x.2.2.1.size≤1000000000)
include hm hs
theorem Lf : ∀(ys pre:List aV),m=pre++ys→sM m m (m.length:Int) (pre.length:Int)=some ((yO m.length pre.length ys && decide (m.length≤30),()),())
 | [],pre,h=>by
  have e:decide ((m.length:Int)≤30)=decide (m.length≤30):=by
   rw[Bool.eq_iff_iff,decide_eq_true_eq,decide_eq_true_eq]
   omega
  rw[Ag,aA (bj h),e]
  rfl
 | y :: ys,pre,h=>by
  have hlen:m.length=pre.length+(ys.length+1):=by rw[h]; simp
  have hy:=hs y (by rw[h]; simp)
  have e:((pre++[y]).length:Int)=(pre.length:Int)+1:=by simp
  rw[Ag,aB (bu h),br h,XY hy,Option.bind_some,aJ h (by omega),fE (n:=(m.length:Int) - 1) (by omega) (by omega),fE (by omega) (by omega),Lf ys _ (az h),e]
  dsimp only
  rw[show yO (m.length:Int) (pre.length:Int) (y :: ys)=(pn y pre.length ((m.length:Int) - 1 - pre.length) && yO m.length ((pre.length:Int)+1) ys) from rfl]
  cases pn y pre.length ((m.length:Int) - 1 - pre.length) <;> simp
theorem Qn:FR m=some ((jC m,()),()):=by
 rw[PZ]
 exact Lf hm hs m [] rfl
omit hm hs in
theorem aau {y:aV} (hy:y.2.2.1.size≤1000000000) {a b:Int} {K:Option ((Bool×Unit)×Unit)} :
  (if(y.1 == 1)=true then((dn y.2.1).bind fun z1=>(if(!z1.1.1)=true then(some ((false,()),(()))) else(if(y.2.2.2.1 != 0)=true then(some ((false,()),(()))) else((fa y.2.2.1).bind fun z2=>(if(!z2.1.1)=true then(some ((false,()),(()))) else K))))) else(if(y.1 == 2)=true then((mb y.2.2.1).bind fun z3=>((dn y.2.1).bind fun z4=>(if(!z4.1.1)=true then(some ((false,()),(()))) else(if(y.2.2.2.1 != 0)=true then(some ((false,()),(()))) else(if(!z3.1.2.1)=true then(some ((false,()),(()))) else(if(!(ByteArray.toList z3.1.1 == ByteArray.toList y.2.2.1))=true then(some ((false,()),(()))) else K)))))) else(if(y.1 == 3)=true then(if(!(bp ap y.2.1 (0,0,())))=true then(some ((false,()),(()))) else((g8 y.2.2.2.1 1 b).bind fun z5=>(if(!z5.1.1)=true then(some ((false,()),(()))) else((fa y.2.2.1).bind fun z6=>(if(!z6.1.1)=true then(some ((false,()),(()))) else K))))) else(if(y.1 == 4)=true then(if(!(bp ap y.2.1 (0,0,())))=true then(some ((false,()),(()))) else((g8 y.2.2.2.1 1 a).bind fun z7=>(if(!z7.1.1)=true then(some ((false,()),(()))) else((fa y.2.2.1).bind fun z8=>(if(!z8.1.1)=true then(some ((false,()),(()))) else K))))) else(if(y.1 == 5)=true then(if(!(bp ap y.2.1 (0,0,())))=true then(some ((false,()),(()))) else(if(y.2.2.2.1 != 0)=true then(some ((false,()),(()))) else((fa y.2.2.1).bind fun z9=>(if(!z9.1.1)=true then(some ((false,()),(()))) else K)))) else(some ((false,()),(()))))))))=if pn y a b=true then K else some ((false,()),()):=by
 unfold pn
 have hne:(y.2.2.2.1 != 0) = !decide (y.2.2.2.1=0):=rfl
 rw[←XK]
 simp only[mD,JF hy,(wC (show y.2.2.1.size≤9223372036854775807 by omega)).2.1,jL,Option.bind_some,eqD,Z9,pf,decide_eq_true_eq,hne]
 by_cases h1:y.1=1
 ·rw[if_pos h1,if_pos h1]
  cases bS y.2.1 <;> cases jQ y.2.2.1 <;> by_cases h0:y.2.2.2.1=0 <;> simp[h0]
 ·rw[if_neg h1,if_neg h1]
  by_cases h2:y.1=2
  ·rw[if_pos h2,if_pos h2]
   cases bS y.2.1 <;> cases (hZ y.2.2.1).2 <;> by_cases h0:y.2.2.2.1=0 <;> by_cases hp:(hZ y.2.2.1).1=y.2.2.1 <;> simp[h0,hp]
  ·rw[if_neg h2,if_neg h2]
   by_cases h3:y.1=3
   ·rw[if_pos h3,if_pos h3]
    by_cases he:y.2.1=(0,0,()) <;> cases jQ y.2.2.1 <;> cases cg y.2.2.2.1 1 b <;> simp[he]
   ·rw[if_neg h3,if_neg h3]
    by_cases h4:y.1=4
    ·rw[if_pos h4,if_pos h4]
     by_cases he:y.2.1=(0,0,()) <;> cases jQ y.2.2.1 <;> cases cg y.2.2.2.1 1 a <;> simp[he]
    ·rw[if_neg h4,if_neg h4]
     by_cases h5:y.1=5
     ·rw[if_pos h5,if_pos h5]
      by_cases he:y.2.1=(0,0,()) <;> cases jQ y.2.2.1 <;> by_cases h0:y.2.2.2.1=0 <;> simp[he,h0]
     ·rw[if_neg h5,if_neg h5]
      simp
theorem Lg : ∀(ys pre:List aV),m=pre++ys→ig m (pre.length:Int)=some ((yO m.length pre.length ys,()),())
 | [],pre,h=>by
  rw[Ab,aA (bj h)]
  rfl
 | y :: ys,pre,h=>by
  have hlen:m.length=pre.length+(ys.length+1):=by rw[h]; simp
  have hy:=hs y (by rw[h]; simp)
  have e:((pre++[y]).length:Int)=(pre.length:Int)+1:=by simp
  rw[Ab,aB (bu h),br h,aJ h (by omega),fE (n:=(m.length:Int) - 1) (by omega) (by omega),fE (n:=(m.length:Int) - 1 - pre.length) (by omega) (by omega),Lg ys _ (az h),aau hy,e]
  rw[show yO (m.length:Int) (pre.length:Int) (y :: ys)=(pn y pre.length ((m.length:Int) - 1 - pre.length) && yO m.length ((pre.length:Int)+1) ys) from rfl]
  cases pn y pre.length ((m.length:Int) - 1 - pre.length) <;> simp
theorem Qo:FM m=some ((jC m,()),()):=by
 rw[PN]
 unfold jC
 by_cases h:m.length≤30
 ·rw[aA (by omega),decide_eq_true h,Bool.and_true]
  exact Lg hm hs m [] rfl
 ·rw[aB (by omega),decide_eq_false h,Bool.and_false]
end
theorem RN {v:ab} (h:ax v=true) (h0:v.1≠0) (hl:(bG v).size≤200):fL (bG v)=true:=by
 have hrd:=BC h
 have hpl:=HV h
 have hb:=Rs (w:=lb (bG v)) (by rw[jk]; omega)
 rw[d9] at hb
 rw[←d9 (bG v),OL] at hpl
 have hne:lb (bG v)≠[]:=by
  intro e
  rw[e] at hrd
  have h1:bB []=(v0,true):=BC (v:=v0) (by decide)
  rw[h1] at hrd
  have:=congrArg (fun p=>p.1.1) hrd
  exact h0 this.symm
 have hall:((lb (bG v)).all AB && decide ((lb (bG v)).length≤200))=true:=by
  rw[hpl,jk,decide_eq_true hl]
  rfl
 have hnum:gh (lb (bG v))=true→v.1=1:=by
  intro hn
  rcases uV h with k | k | k | k | k
  ·exact absurd k h0
  ·exact k
  ·exfalso
   have e:lb (bG v)=39 :: lb v.2.2.1:=by
    unfold bG
    rw[if_neg (by omega),if_pos k,show(⟨#[39]⟩:ByteArray)=ba [39] from rfl]
    conv=>lhs; rw[←d9 v.2.2.1]
    rw[k9,dv]
    rfl
   rw[e] at hn
   unfold gh jB at hn
   have hm:iW (39 :: lb v.2.2.1)=39 :: lb v.2.2.1:=rfl
   rw[hm,List.all_cons] at hn
   have:dt 39=false:=by decide
   rw[this] at hn
   simp at hn
  ·exfalso
   have hr:=Ao h k
   have e:bG v=xS v.2.1:=by
    unfold bG
    rw[if_neg (by omega),if_neg (by omega),if_pos k]
   rw[e] at hn
   have:v.2.1=0∨v.2.1=1:=by omega
   rcases this with q | q <;> rw[q] at hn <;> exact absurd hn (by decide +kernel)
  ·exfalso
   have hr:=vb h k
   have e:bG v=cY v.2.1:=by
    unfold bG
    rw[if_neg (by omega),if_neg (by omega),if_neg (by omega),if_pos k]
   rw[e] at hn
   have:v.2.1=1∨v.2.1=2∨v.2.1=3∨v.2.1=4∨v.2.1=5:=by omega
   rcases this with q | q | q | q | q <;> rw[q] at hn <;> exact absurd hn (by decide +kernel)
 have h61:(lb (bG v)).head? ≠ some 61:=by
  intro e
  rcases uV h with k | k | k | k | k
  ·exact h0 k
  ·have hr:=rT h k
   have e2:bG v=cP v.2.1:=by
    unfold bG
    rw[if_pos k]
   rw[e2] at e
   exact(OM hr.1 hr.2).2.2.2.1 e
  ·have e2:lb (bG v)=39 :: lb v.2.2.1:=by
    unfold bG
    rw[if_neg (by omega),if_pos k,show(⟨#[39]⟩:ByteArray)=ba [39] from rfl]
    conv=>lhs; rw[←d9 v.2.2.1]
    rw[k9,dv]
    rfl
   rw[e2] at e
   simp at e
  ·have hr:=Ao h k
   have e2:bG v=xS v.2.1:=by
    unfold bG
    rw[if_neg (by omega),if_neg (by omega),if_pos k]
   rw[e2] at e
   have:v.2.1=0∨v.2.1=1:=by omega
   rcases this with q | q <;> rw[q] at e <;> exact absurd e (by decide +kernel)
  ·have hr:=vb h k
   have e2:bG v=cY v.2.1:=by
    unfold bG
    rw[if_neg (by omega),if_neg (by omega),if_neg (by omega),if_pos k]
   rw[e2] at e
   have:v.2.1=1∨v.2.1=2∨v.2.1=3∨v.2.1=4∨v.2.1=5:=by omega
   rcases this with q | q | q | q | q <;> rw[q] at e <;> exact absurd e (by decide +kernel)
 have hW:wD (lb (bG v))=(lb (bG v),true):=by
  rw[Rt hne hall,if_neg h61]
  by_cases hn:gh (lb (bG v))=true
  ·have k:=hnum hn
   have hr:=rT h k
   have e2:bG v=cP v.2.1:=by
    unfold bG
    rw[if_pos k]
   rw[if_pos hn,e2,(OM hr.1 hr.2).2.1]
  ·rw[if_neg hn,hrd,if_pos rfl]
 rw[hW] at hb
 dsimp only at hb
 rw[d9] at hb
 rw[DE,hb]
 refine⟨rfl,?_,rfl⟩
 intro e
 rw[e] at hne
 exact hne rfl
theorem Ze:fL (cY 4)=true:=by
 have:=RN (v:=vE 4) (by decide) (by decide) (by decide +kernel)
 exact this
abbrev nE:=List ae×List ag×List ao
noncomputable def gI (s:List ae) (t:ByteArray):ab:=fK (iX t).1 (aY s (DM s))
def Pb (v:ab):Bool:=eX v && decide (v.2.1≠0)
def JG (v:ab):ByteArray:=if(bG v).size > 200 then cY 4 else bG v
noncomputable def dl (st:nE) (q:ao) (x:ByteArray):Int×nE:=if(pl st.1 q x).length > 120 then(5,st) else(0,pl st.1 q x,st.2.1,aC st.2.2 [q])
noncomputable def cS (st:nE) (t:ByteArray):nE:=(st.1,aC st.2.1 (nr st.1 (fo ((⟨#[61]⟩:ByteArray)++t))),st.2.2)
noncomputable def bW (x:aV) (i:Int) (st:nE):Int×Int×nE :=
 if x.1=2 then((dl st x.2.1 x.2.2.1).1,i+1,(dl st x.2.1 x.2.2.1).2)
 else if x.1=1 then((dl (cS st x.2.2.1) x.2.1 (JG (gI st.1 x.2.2.1))).1,i+1,(dl (cS st x.2.2.1) x.2.1 (JG (gI st.1 x.2.2.1))).2)
 else if x.1=3 then(0,if Pb (gI st.1 x.2.2.1)=true then i+1 else i+x.2.2.2.1+1,cS st x.2.2.1)
 else if x.1=4 then(0,if Pb (gI st.1 x.2.2.1)=true then i - x.2.2.2.1 else i+1,cS st x.2.2.1)
 else(if Pb (gI st.1 x.2.2.1)=true then 4 else 0,i+1,cS st x.2.2.1)
noncomputable def eF (m:List aV):Nat→Int→nE→Int×Nat×nE
 | 0,i,st=>if i < (m.length:Int) then(3,0,st) else(0,0,st)
 | n+1,i,st=>if i < (m.length:Int) then
   (if(bW (m.getD i.toNat aG.dflt) i st).1=0 then((eF m n (bW (m.getD i.toNat aG.dflt) i st).2.1 (bW (m.getD i.toNat aG.dflt) i st).2.2).1,(eF m n (bW (m.getD i.toNat aG.dflt) i st).2.1 (bW (m.getD i.toNat aG.dflt) i st).2.2).2.1+1,(eF m n (bW (m.getD i.toNat aG.dflt) i st).2.1 (bW (m.getD i.toNat aG.dflt) i st).2.2).2.2)
    else((bW (m.getD i.toNat aG.dflt) i st).1,1,(bW (m.getD i.toNat aG.dflt) i st).2.2))
   else(0,0,st)
structure nM (n:Nat) (st:nE):Prop where
 sh:bz st.1=true
 lk:st.2.1.length+8000*n≤9000000
 se:st.2.2.length+n≤900000
section
variable {s:List ae} (hs:bz s=true) {t:ByteArray} (ht:jQ t=true)
include hs ht
theorem Pc:ax (gI s t)=true∧(gI s t).1≠0:=by
 obtain⟨f,h1,h2,h3,h4⟩:=AD ht
 have hv:=kQ hs fun k hk=>JD hs hk
 have e:gI s t=fK f (aY s (DM s)):=by
  unfold gI
  rw[h2]
 rw[e]
 refine⟨DK h3 hv,?_⟩
 unfold fK
 dsimp only
 split
 ·decide
 ·assumption
theorem aaa {L:List ag} {S:List ao} (hL:L.length≤10000000):oC t s L S=some ((gI s t,()),((s,aC L (nr s (fo ((⟨#[61]⟩:ByteArray)++t))),S,()),())):=by
 obtain⟨f,h1,h2,h3,h4⟩:=AD ht
 have hsm:=tH h3
 have hl:=hsm.1
 have hn:=bn hs
 have hv:=kQ hs fun k hk=>JD hs hk
 have har:fo ((⟨#[61]⟩:ByteArray)++t)=b7 f:=by
  unfold fo
  rw[h1]
  rfl
 have e:gI s t=fK f (aY s (DM s)):=by
  unfold gI
  rw[h2]
 rw[FY,(tG (x:=t) (by omega)).2.1,h2,Option.bind_some,XW hs (by omega) hL,Option.bind_some,har,e]
 dsimp only
 rw[Il hs,Option.bind_some,N3 (by rw[gW]; omega) (fun c hc=>Nat.le_trans (dD (pM hv c hc)) (by decide)) (by omega) hsm.2.1 hsm.2.2 h3 hv]
 rfl
theorem aab {i j k:Int} {L:List ag} {S:List ao}:xi (s,i,j,k,L,S,()) t=some ((gI s t,()),()):=by
 obtain⟨f,h1,h2,h3,h4⟩:=AD ht
 have hsm:=tH h3
 have hl:=hsm.1
 have hn:=bn hs
 have hv:=kQ hs fun k hk=>JD hs hk
 have e:gI s t=fK f (aY s (DM s)):=by
  unfold gI
  rw[h2]
 rw[No,(tG (x:=t) (by omega)).1,h2,Option.bind_some,Wd hs,Option.bind_some,N0 (by rw[gW]; omega) (fun c hc=>Nat.le_trans (dD (pM hv c hc)) (by decide)) (by omega) hsm.2.1 hsm.2.2,e]
 unfold L0
 rw[if_pos h3,if_pos hv]
 rfl
end
section
variable {s:List ae} (hs:bz s=true) {q:ao} {x:ByteArray} {L:List ag} {S:List ao} (hS:S.length≤1000000)
include hs hS
theorem Yo:aE q x s L S=some ((decide ((dl (s,L,S) q x).1=0),()),(((dl (s,L,S) q x).2.1,(dl (s,L,S) q x).2.2.1,(dl (s,L,S) q x).2.2.2,()),())):=by
 have hn:=bn hs
 rw[HC,Qk (gi hs) (by omega),Option.bind_some]
 unfold dl
 dsimp only
 by_cases h:(pl s q x).length > 120
 ·rw[aB (by omega),if_pos h]
  rfl
 ·rw[aA (by omega),if_neg h,Y4 (by omega),Option.bind_some,sj]
  dsimp only
  by_cases hq:q∈S
  ·rw[decide_eq_true hq,if_neg (by decide),if_pos hq]
   rfl
  ·rw[decide_eq_false hq,if_pos (by decide),if_neg hq,bd (by simp only[List.length_singleton]; omega)]
   rfl
theorem Yp {i j:Int}:iu (s,i,j,0,L,S,()) q x=some ((((dl (s,L,S) q x).2.1,i,j,(dl (s,L,S) q x).1,(dl (s,L,S) q x).2.2.1,(dl (s,L,S) q x).2.2.2,()),()),()):=by
 have hn:=bn hs
 rw[SE]
 dsimp only
 rw[VY (by omega),Option.bind_some]
 unfold dl
 dsimp only
 by_cases h:(pl s q x).length > 120
 ·rw[aB (by omega),if_pos h]
 ·rw[aA (by omega),if_neg h,xZ _ (by omega),Option.bind_some,sj]
  dsimp only
  by_cases hq:q∈S
  ·rw[decide_eq_true hq,if_neg (by decide),if_pos hq]
  ·rw[decide_eq_false hq,if_pos (by decide),if_neg hq,bd (by simp only[List.length_nil]; omega),List.nil_append,bd (by simp only[List.length_singleton]; omega)]
end
theorem Lh (st:nE) (q:ao) (x:ByteArray):(dl st q x).1=0∨(dl st q x).1=5:=by
 unfold dl
 split
 ·exact .inr rfl
 ·exact .inl rfl
section
variable {m:List aV} (hm:jC m=true) {st:nE} {n:Nat} (hI:nM (n+1) st) {i:Int} (h0:0≤i) (h1:i < (m.length:Int)) {fuel steps:Int} (hb:0≤steps∧steps≤1000) (hf:steps≠fuel)
include hm hI h0 h1
theorem TU : ∃ x,m[i.toNat]? = some x∧m.getD i.toNat aG.dflt=x∧pn x i ((m.length:Int) - 1 - i)=true:=by
 have hi:i.toNat < m.length:=by omega
 refine⟨m.getD i.toNat aG.dflt,pQ hi,rfl,?_⟩
 have:=XZ hm (pQ (d:=aG.dflt) hi)
 rw[show((i.toNat:Nat):Int)=i by omega] at this
 exact this
omit h0 h1 hm in
theorem RO {q:ao} {x:ByteArray} (hq:bS q=true) (hx:x≠eS→fL x=true) {L:List ag} (hL:L.length+8000*n≤9000000):nM n (dl (st.1,L,st.2.2) q x).2:=by
 have h2:=hI.sh
 have h3:=hI.se
 unfold dl
 dsimp only
 by_cases h:(pl st.1 q x).length > 120
 ·rw[if_pos h]
  exact⟨h2,hL,by show st.2.2.length+n≤900000; omega⟩
 ·rw[if_neg h]
  have hl:=tJ st.2.2 [q]
  rw[List.length_singleton] at hl
  exact⟨Qj h2 hq hx (by omega),hL,by show(aC st.2.2 [q]).length+n≤900000; omega⟩
omit h0 h1 hm in
theorem so {t:ByteArray} (ht:jQ t=true):(cS st t).2.1.length+8000*n≤9000000∧nM n (cS st t):=by
 obtain⟨f,h1,h2,h3,h4⟩:=AD ht
 have a1:=hI.lk
 have a2:=hI.se
 have har:(fo ((⟨#[61]⟩:ByteArray)++t)).length≤60:=pR (by rw[JE]; omega)
 have hlen:=Ld hI.sh har
 have hl:=tJ st.2.1 (nr st.1 (fo ((⟨#[61]⟩:ByteArray)++t)))
 have e:(cS st t).2.1.length+8000*n≤9000000:=by
  show(aC st.2.1 (nr st.1 (fo ((⟨#[61]⟩:ByteArray)++t)))).length+8000*n≤9000000
  omega
 exact⟨e,hI.sh,e,by show st.2.2.length+n≤900000; omega⟩
theorem X0 {s:List ae} (hs:bz s=true) {t:ByteArray} (ht:jQ t=true):fL (JG (gI s t))=true:=by
 obtain⟨e1,e2⟩:=Pc hs ht
 unfold JG
 split
 ·exact Ze
 ·exact RN e1 e2 (by omega)
theorem DN:nM n (bW (m.getD i.toNat aG.dflt) i st).2.2∧0≤(bW (m.getD i.toNat aG.dflt) i st).2.1∧(bW (m.getD i.toNat aG.dflt) i st).2.1≤(m.length:Int):=by
 obtain⟨x,hx,hxd,hst⟩:=TU hm hI h0 h1
 rw[hxd]
 unfold pn at hst
 unfold bW
 have a1:=hI.lk
 by_cases k2:x.1=2
 ·rw[if_neg (by omega),if_pos k2,Bool.and_eq_true,Bool.and_eq_true] at hst
  rw[if_pos k2]
  refine⟨RO (L:=st.2.1) hI hst.1.1 (fun hne => ?_) (by omega),by show 0≤i+1; omega,by show i+1≤_; omega⟩
  have:=hst.1.2
  unfold OQ at this
  rw[decide_eq_false hne,Bool.false_or] at this
  exact this
 ·rw[if_neg k2]
  by_cases k1:x.1=1
  ·rw[if_pos k1,Bool.and_eq_true,Bool.and_eq_true] at hst
   rw[if_pos k1]
   obtain⟨e1,e2⟩:=so hI hst.1.2
   exact⟨RO hI hst.1.1 (fun _=>X0 hm hI h0 h1 hI.sh hst.1.2) e1,by show 0≤i+1; omega,by show i+1≤_; omega⟩
  ·rw[if_neg k1,if_neg k2] at hst
   rw[if_neg k1]
   by_cases k3:x.1=3
   ·rw[if_pos k3,Bool.and_eq_true,Bool.and_eq_true] at hst
    rw[if_pos k3]
    have hb:=bw.1 hst.2
    refine⟨(so hI hst.1.2).2,?_,?_⟩ <;> dsimp only <;> split <;> omega
   ·rw[if_neg k3] at hst
    rw[if_neg k3]
    by_cases k4:x.1=4
    ·rw[if_pos k4,Bool.and_eq_true,Bool.and_eq_true] at hst
     rw[if_pos k4]
     have hb:=bw.1 hst.2
     refine⟨(so hI hst.1.2).2,?_,?_⟩ <;> dsimp only <;> split <;> omega
    ·rw[if_neg k4] at hst
     rw[if_neg k4]
     by_cases k5:x.1=5
     ·rw[if_pos k5,Bool.and_eq_true,Bool.and_eq_true] at hst
      exact⟨(so hI hst.1.2).2,by show 0≤i+1; omega,by show i+1≤_; omega⟩
     ·rw[if_neg k5] at hst
      cases hst
include hb hf
theorem aav:af m fuel steps i st.1 st.2.1 st.2.2=if(bW (m.getD i.toNat aG.dflt) i st).1=0 then af m fuel (steps+1) (bW (m.getD i.toNat aG.dflt) i st).2.1 (bW (m.getD i.toNat aG.dflt) i st).2.2.1 (bW (m.getD i.toNat aG.dflt) i st).2.2.2.1 (bW (m.getD i.toNat aG.dflt) i st).2.2.2.2
  else some (((bW (m.getD i.toNat aG.dflt) i st).1,steps+1,()),(((bW (m.getD i.toNat aG.dflt) i st).2.2.1,(bW (m.getD i.toNat aG.dflt) i st).2.2.2.1,(bW (m.getD i.toNat aG.dflt) i st).2.2.2.2,()),())):=by
 obtain⟨x,hx,hxd,hst⟩:=TU hm hI h0 h1
 have hml:=Le hm
 have a1:=hI.lk
 have a2:=hI.se
 have hfs:(steps == fuel)=false:=by rw[pf,decide_eq_false hf]
 have w1:IntKind.i64.wrap (steps+1)=steps+1:=fE (by omega) (by omega)
 have w2:IntKind.i64.wrap (i+1)=i+1:=fE (by omega) (by omega)
 rw[hxd,i6,aB h1,hfs,if_neg (by decide),bV h0 hx,w1,w2]
 unfold pn at hst
 unfold bW
 by_cases k2:x.1=2
 ·have hp:=Yo hI.sh (q:=x.2.1) (x:=x.2.2.1) (L:=st.2.1) (S:=st.2.2) (by omega)
  rw[if_pos k2,k2,if_neg (by decide),if_pos (by decide),hp,Option.bind_some]
  dsimp only
  rcases Lh st x.2.1 x.2.2.1 with e | e
  ·rw[show dl (st.1,st.2.1,st.2.2) x.2.1 x.2.2.1=dl st x.2.1 x.2.2.1 from rfl,e,if_pos rfl,if_neg (by decide)]
  ·rw[show dl (st.1,st.2.1,st.2.2) x.2.1 x.2.2.1=dl st x.2.1 x.2.2.1 from rfl,e,if_pos (by decide),if_neg (by decide)]
 ·have hne:(x.1 != 2)=true:=by rw[bne_iff_ne]; exact k2
  have hw:jQ x.2.2.1=true:=by
   by_cases k1:x.1=1
   ·rw[if_pos k1,Bool.and_eq_true,Bool.and_eq_true] at hst
    exact hst.1.2
   ·rw[if_neg k1,if_neg k2] at hst
    by_cases k3:x.1=3
    ·rw[if_pos k3,Bool.and_eq_true,Bool.and_eq_true] at hst
     exact hst.1.2
    ·rw[if_neg k3] at hst
     by_cases k4:x.1=4
     ·rw[if_pos k4,Bool.and_eq_true,Bool.and_eq_true] at hst
      exact hst.1.2
     ·rw[if_neg k4] at hst
      by_cases k5:x.1=5
      ·rw[if_pos k5,Bool.and_eq_true,Bool.and_eq_true] at hst
       exact hst.1.2
      ·rw[if_neg k5] at hst
       cases hst
  obtain⟨v1,v2⟩:=Pc hI.sh hw
  have htr:=sS (co v1)
  have hvt:=Cc (co v1)
  rw[if_pos v1] at hvt
  obtain⟨l1,l2⟩:=so hI hw
  rw[if_neg k2,if_pos hne,aaa hI.sh hw (by omega),Option.bind_some]
  dsimp only
  rw[htr,Option.bind_some]
  dsimp only
  unfold Pb
  by_cases k1:x.1=1
  ·have hp:=fun y=>Yo hI.sh (q:=x.2.1) (x:=y) (L:=(cS st x.2.2.1).2.1) (S:=st.2.2) (by omega)
   have hp' : ∀ y,aE x.2.1 y st.1 (aC st.2.1 (nr st.1 (fo ((⟨#[61]⟩:ByteArray)++x.2.2.1)))) st.2.2=some ((decide ((dl (cS st x.2.2.1) x.2.1 y).1=0),()),(((dl (cS st x.2.2.1) x.2.1 y).2.1,(dl (cS st x.2.2.1) x.2.1 y).2.2.1,(dl (cS st x.2.2.1) x.2.1 y).2.2.2,()),())):=hp
   have e4:=oG (n:=4) (by decide) (by decide)
   have main : ∀ y,((aE x.2.1 y st.1 (aC st.2.1 (nr st.1 (fo ((⟨#[61]⟩:ByteArray)++x.2.2.1)))) st.2.2).bind fun z5=>(if(!z5.1.1)=true then(some ((5,(steps+1),()),(z5.2.1,()))) else(af m fuel (steps+1) (i+1) z5.2.1.1 z5.2.1.2.1 z5.2.1.2.2.1)))=if(dl (cS st x.2.2.1) x.2.1 y).1=0 then af m fuel (steps+1) (i+1) (dl (cS st x.2.2.1) x.2.1 y).2.1 (dl (cS st x.2.2.1) x.2.1 y).2.2.1 (dl (cS st x.2.2.1) x.2.1 y).2.2.2 else some (((dl (cS st x.2.2.1) x.2.1 y).1,steps+1,()),(((dl (cS st x.2.2.1) x.2.1 y).2.1,(dl (cS st x.2.2.1) x.2.1 y).2.2.1,(dl (cS st x.2.2.1) x.2.1 y).2.2.2,()),())):=by
    intro y
    rw[hp' y,Option.bind_some]
    dsimp only
    rcases Lh (cS st x.2.2.1) x.2.1 y with e | e
    ·rw[e,if_pos rfl,if_neg (by decide)]
    ·rw[e,if_pos (by decide),if_neg (by decide)]
   rw[if_pos k1]
   simp only[k1,main,e4,hvt,Option.bind_some,beq_self_eq_true,if_true,show decide ((1:Int)≤2)=true from rfl,ite_self]
   unfold JG
   by_cases hsz:(bG (gI st.1 x.2.2.1)).size > 200
   ·rw[aB (by omega),if_pos hsz]
   ·rw[aA (by omega),if_neg hsz]
  ·rw[if_neg k1]
   have k1':(x.1 == 1)=false:=by rw[pf,decide_eq_false k1]
   rw[if_neg k1,if_neg k2] at hst
   by_cases k3:x.1=3
   ·rw[if_pos k3,Bool.and_eq_true,Bool.and_eq_true] at hst
    have hb3:=bw.1 hst.2
    have w3:IntKind.i64.wrap (IntKind.i64.wrap (i+x.2.2.2.1)+1)=i+x.2.2.2.1+1:=by
     rw[fE (n:=i+x.2.2.2.1) (by omega) (by omega),fE (by omega) (by omega)]
    rw[if_pos k3]
    simp only[k3,w3,show((3:Int) == 1)=false from rfl,show((3:Int) == 3)=true from rfl,show((3:Int) == 4)=false from rfl,show((3:Int) == 5)=false from rfl,show decide ((3:Int)≤2)=false from rfl,Bool.false_eq_true,if_false,if_true,decide_eq_true_eq]
    unfold cS
    by_cases hn:(gI st.1 x.2.2.1).2.1=0
    ·simp[hn]
    ·cases hi:eX (gI st.1 x.2.2.1) <;> simp[hn]
   ·have k3':(x.1 == 3)=false:=by rw[pf,decide_eq_false k3]
    rw[if_neg k3] at hst
    rw[if_neg k3]
    by_cases k4:x.1=4
    ·rw[if_pos k4,Bool.and_eq_true,Bool.and_eq_true] at hst
     have hb3:=bw.1 hst.2
     have w3:IntKind.i64.wrap (IntKind.i64.wrap (i - IntKind.i64.wrap (x.2.2.2.1+1))+1)=i - x.2.2.2.1:=by
      rw[fE (n:=x.2.2.2.1+1) (by omega) (by omega),fE (n:=i - (x.2.2.2.1+1)) (by omega) (by omega),fE (by omega) (by omega)]
      omega
     rw[if_pos k4]
     simp only[k4,w3,show((4:Int) == 1)=false from rfl,show((4:Int) == 3)=false from rfl,show((4:Int) == 4)=true from rfl,show((4:Int) == 5)=false from rfl,show decide ((4:Int)≤2)=false from rfl,Bool.false_eq_true,if_false,if_true,decide_eq_true_eq]
     unfold cS
     by_cases hn:(gI st.1 x.2.2.1).2.1=0
     ·simp[hn]
     ·cases hi:eX (gI st.1 x.2.2.1) <;> simp[hn]
    ·rw[if_neg k4] at hst
     rw[if_neg k4]
     by_cases k5:x.1=5
     ·simp only[k5,show((5:Int) == 1)=false from rfl,show((5:Int) == 3)=false from rfl,show((5:Int) == 4)=false from rfl,show((5:Int) == 5)=true from rfl,show decide ((5:Int)≤2)=false from rfl,Bool.false_eq_true,if_false,if_true,decide_eq_true_eq]
      unfold cS
      by_cases hn:(gI st.1 x.2.2.1).2.1=0
      ·simp[hn]
      ·cases hi:eX (gI st.1 x.2.2.1) <;> simp[hn]
     ·rw[if_neg k5] at hst
      cases hst
theorem aaw {u v w:Int} {j1:List ae} {j2:List ag} {j3:List ao}:aW m fuel u v w st.1 i steps 0 st.2.1 st.2.2 j1 j2 j3=aW m fuel u v w (bW (m.getD i.toNat aG.dflt) i st).2.2.1 (bW (m.getD i.toNat aG.dflt) i st).2.1 (steps+1) (bW (m.getD i.toNat aG.dflt) i st).1 (bW (m.getD i.toNat aG.dflt) i st).2.2.2.1 (bW (m.getD i.toNat aG.dflt) i st).2.2.2.2 j1 j2 j3:=by
 obtain⟨x,hx,hxd,hst⟩:=TU hm hI h0 h1
 have hml:=Le hm
 have a1:=hI.lk
 have a2:=hI.se
 have hfs:(steps == fuel)=false:=by rw[pf,decide_eq_false hf]
 have w1:IntKind.i64.wrap (steps+1)=steps+1:=fE (by omega) (by omega)
 have w2:IntKind.i64.wrap (i+1)=i+1:=fE (by omega) (by omega)
 conv=>lhs; rw[kf]
 rw[hxd,if_pos (by rfl),aB h1,hfs,if_neg (by decide),bV h0 hx,w1,w2]
 unfold pn at hst
 unfold bW
 by_cases k2:x.1=2
 ·have hp:=Yp hI.sh (q:=x.2.1) (x:=x.2.2.1) (L:=st.2.1) (S:=st.2.2) (by omega) (i:=i+1) (j:=steps+1)
  rw[if_pos k2,k2,if_pos (by decide),hp,Option.bind_some]
 ·have hne:(x.1 == 2)=false:=by rw[pf,decide_eq_false k2]
  have hw:jQ x.2.2.1=true:=by
   by_cases k1:x.1=1
   ·rw[if_pos k1,Bool.and_eq_true,Bool.and_eq_true] at hst
    exact hst.1.2
   ·rw[if_neg k1,if_neg k2] at hst
    by_cases k3:x.1=3
    ·rw[if_pos k3,Bool.and_eq_true,Bool.and_eq_true] at hst
     exact hst.1.2
    ·rw[if_neg k3] at hst
     by_cases k4:x.1=4
     ·rw[if_pos k4,Bool.and_eq_true,Bool.and_eq_true] at hst
      exact hst.1.2
     ·rw[if_neg k4] at hst
      by_cases k5:x.1=5
      ·rw[if_pos k5,Bool.and_eq_true,Bool.and_eq_true] at hst
       exact hst.1.2
      ·rw[if_neg k5] at hst
       cases hst
  obtain⟨f,_,_,_,hsz⟩:=AD hw
  obtain⟨v1,v2⟩:=Pc hI.sh hw
  have htr:=uX v1
  have hvt:=eI (co v1)
  rw[if_pos v1] at hvt
  have hbad:=dk (gI st.1 x.2.2.1)
  obtain⟨l1,l2⟩:=so hI hw
  rw[if_neg k2,hne,if_neg (by decide),XX hI.sh (by omega) (by omega),Option.bind_some]
  dsimp only
  rw[aab hI.sh hw,Option.bind_some]
  dsimp only
  rw[htr,Option.bind_some]
  dsimp only
  unfold Pb
  by_cases k1:x.1=1
  ·have hp:=fun y=>Yp hI.sh (q:=x.2.1) (x:=y) (L:=(cS st x.2.2.1).2.1) (S:=st.2.2) (by omega) (i:=i+1) (j:=steps+1)
   have hp' : ∀ y,iu (st.1,i+1,steps+1,0,aC st.2.1 (nr st.1 (fo ((⟨#[61]⟩:ByteArray)++x.2.2.1))),st.2.2,()) x.2.1 y=some ((((dl (cS st x.2.2.1) x.2.1 y).2.1,i+1,steps+1,(dl (cS st x.2.2.1) x.2.1 y).1,(dl (cS st x.2.2.1) x.2.1 y).2.2.1,(dl (cS st x.2.2.1) x.2.1 y).2.2.2,()),()),()):=hp
   have e4:=uU (n:=4) (by decide) (by decide)
   rw[if_pos k1]
   simp only[k1,hp',e4,hvt,Option.bind_some,beq_self_eq_true,if_true,ite_self]
   unfold JG
   by_cases hz:(bG (gI st.1 x.2.2.1)).size > 200
   ·rw[aB (by omega),if_pos hz]
   ·rw[aA (by omega),if_neg hz]
  ·rw[if_neg k1]
   rw[if_neg k1,if_neg k2] at hst
   by_cases k3:x.1=3
   ·rw[if_pos k3,Bool.and_eq_true,Bool.and_eq_true] at hst
    have hb3:=bw.1 hst.2
    have w3:IntKind.i64.wrap (i+1+x.2.2.2.1)=i+x.2.2.2.1+1:=by
     rw[fE (by omega) (by omega)]
     omega
    rw[if_pos k3]
    simp only[k3,w3,show((3:Int) == 1)=false from rfl,show((3:Int) == 3)=true from rfl,show((3:Int) == 4)=false from rfl,show((3:Int) == 5)=false from rfl,Bool.false_eq_true,if_false,if_true,decide_eq_true_eq]
    unfold cS
    by_cases hn:(gI st.1 x.2.2.1).2.1=0
    ·cases hi:eX (gI st.1 x.2.2.1) <;> simp[hn]
    ·cases hi:eX (gI st.1 x.2.2.1) <;> simp[hn,hbad,v0]
   ·rw[if_neg k3] at hst
    rw[if_neg k3]
    by_cases k4:x.1=4
    ·rw[if_pos k4,Bool.and_eq_true,Bool.and_eq_true] at hst
     have hb3:=bw.1 hst.2
     have w3:IntKind.i64.wrap (IntKind.i64.wrap (i+1 - 1) - x.2.2.2.1)=i - x.2.2.2.1:=by
      rw[fE (n:=i+1 - 1) (by omega) (by omega),fE (by omega) (by omega)]
      omega
     rw[if_pos k4]
     simp only[k4,w3,show((4:Int) == 1)=false from rfl,show((4:Int) == 3)=false from rfl,show((4:Int) == 4)=true from rfl,show((4:Int) == 5)=false from rfl,Bool.false_eq_true,if_false,if_true,decide_eq_true_eq]
     unfold cS
     by_cases hn:(gI st.1 x.2.2.1).2.1=0
     ·cases hi:eX (gI st.1 x.2.2.1) <;> simp[hn]
     ·cases hi:eX (gI st.1 x.2.2.1) <;> simp[hn,hbad,v0]
    ·rw[if_neg k4] at hst
     rw[if_neg k4]
     by_cases k5:x.1=5
     ·simp only[k5,show((5:Int) == 1)=false from rfl,show((5:Int) == 3)=false from rfl,show((5:Int) == 4)=false from rfl,show((5:Int) == 5)=true from rfl,Bool.false_eq_true,if_false,if_true,decide_eq_true_eq]
      unfold cS
      by_cases hn:(gI st.1 x.2.2.1).2.1=0
      ·cases hi:eX (gI st.1 x.2.2.1) <;> simp[hn]
      ·cases hi:eX (gI st.1 x.2.2.1) <;> simp[hn,hbad,v0]
     ·rw[if_neg k5] at hst
      cases hst
end
section
variable {m:List aV} (hm:jC m=true) {fuel:Int} (hfu:0≤fuel∧fuel≤500)
include hm hfu
theorem Pd : ∀(n:Nat) (i steps:Int) (st:nE),nM n st→0≤i→i≤(m.length:Int)→0≤steps→fuel=steps+n→af m fuel steps i st.1 st.2.1 st.2.2=some (((eF m n i st).1,steps+((eF m n i st).2.1:Int),()),(((eF m n i st).2.2.1,(eF m n i st).2.2.2.1,(eF m n i st).2.2.2.2,()),()))
 | 0,i,steps,st,hI,h0,h1,hp,hf=>by
  unfold eF
  rw[i6]
  by_cases h:i < (m.length:Int)
  ·rw[aB h,if_pos h,if_pos (by rw[beq_iff_eq]; omega)]
   dsimp only
   rw[show steps+((0:Nat):Int)=steps by omega]
  ·rw[aA h,if_neg h]
   dsimp only
   rw[show steps+((0:Nat):Int)=steps by omega]
 | n+1,i,steps,st,hI,h0,h1,hp,hf=>by
  by_cases h:i < (m.length:Int)
  ·obtain⟨q1,q2,q3⟩:=DN hm hI h0 h
   rw[aav hm hI h0 h (by omega) (by omega)]
   unfold eF
   rw[if_pos h]
   by_cases hc:(bW (m.getD i.toNat aG.dflt) i st).1=0
   ·rw[if_pos hc,if_pos hc,Pd n _ (steps+1) _ q1 q2 q3 (by omega) (by omega)]
    dsimp only
    rw[show ∀ k:Nat,steps+1+(k:Int)=steps+((k+1:Nat):Int) from fun k=>by omega]
   ·rw[if_neg hc,if_neg hc]
    rfl
  ·unfold eF
   rw[i6,aA h,if_neg h]
   dsimp only
   rw[show steps+((0:Nat):Int)=steps by omega]
theorem Pe {u v w:Int} {j1:List ae} {j2:List ag} {j3:List ao} : ∀(n:Nat) (i steps:Int) (st:nE),nM n st→0≤i→i≤(m.length:Int)→0≤steps→fuel=steps+n → ∃ j,aW m fuel u v w st.1 i steps 0 st.2.1 st.2.2 j1 j2 j3=some ((((eF m n i st).2.2.1,j,steps+((eF m n i st).2.1:Int),(eF m n i st).1,(eF m n i st).2.2.2.1,(eF m n i st).2.2.2.2,()),()),())
 | 0,i,steps,st,hI,h0,h1,hp,hf=>by
  unfold eF
  rw[kf,if_pos (by rfl)]
  by_cases h:i < (m.length:Int)
  ·rw[aB h,if_pos h,if_pos (by rw[beq_iff_eq]; omega)]
   dsimp only
   rw[show steps+((0:Nat):Int)=steps by omega]
   exact⟨_,rfl⟩
  ·rw[aA h,if_neg h]
   dsimp only
   rw[show steps+((0:Nat):Int)=steps by omega]
   exact⟨_,rfl⟩
 | n+1,i,steps,st,hI,h0,h1,hp,hf=>by
  by_cases h:i < (m.length:Int)
  ·obtain⟨q1,q2,q3⟩:=DN hm hI h0 h
   rw[aaw hm hI h0 h (by omega) (by omega)]
   unfold eF
   rw[if_pos h]
   by_cases hc:(bW (m.getD i.toNat aG.dflt) i st).1=0
   ·obtain⟨j,e⟩:=Pe n (bW (m.getD i.toNat aG.dflt) i st).2.1 (steps+1) (bW (m.getD i.toNat aG.dflt) i st).2.2 q1 q2 q3 (by omega) (by omega)
    refine⟨j,?_⟩
    rw[hc,if_pos rfl,e]
    dsimp only
    rw[show ∀ k:Nat,steps+1+(k:Int)=steps+((k+1:Nat):Int) from fun k=>by omega]
   ·refine⟨(bW (m.getD i.toNat aG.dflt) i st).2.1,?_⟩
    rw[if_neg hc,kf,if_neg (by rw[beq_iff_eq]; exact hc)]
    rfl
  ·unfold eF
   rw[kf,if_pos (by rfl),aA h,if_neg h]
   dsimp only
   rw[show steps+((0:Nat):Int)=steps by omega]
   exact⟨_,rfl⟩
end
noncomputable def mK (s:List ae) (m:List aV) (fuel:Int):Int×Nat×nE:=eF m fuel.toNat 0 (s,[],[])
noncomputable def rz (s:List ae) (m:List aV) (fuel:Int):Int:=if bz s=true then(if jC m=true∧cg fuel 0 400=true then 0 else 1) else 2
noncomputable def Im (s:List ae) (m:List aV) (fuel:Int):List ae×(Int×(Int×Unit)):=if rz s m fuel=0 then((if(mK s m fuel).1=0 then(mK s m fuel).2.2.1 else s),(mK s m fuel).1,((mK s m fuel).2.1:Int),()) else([],rz s m fuel,0,())
noncomputable def wL (s:List ae) (m:List aV) (fuel:Int):List ag×(List ao×Unit):=if rz s m fuel=0 then((mK s m fuel).2.2.2.1,(mK s m fuel).2.2.2.2,()) else([],[],())
theorem wM {s:List ae} {m:List aV} {fuel:Int} (h:rz s m fuel=0):bz s=true∧jC m=true∧0≤fuel∧fuel≤400:=by
 unfold rz at h
 by_cases h1:bz s=true
 ·rw[if_pos h1] at h
  by_cases h2:jC m=true∧cg fuel 0 400=true
  ·have:=bw.1 h2.2
   exact⟨h1,h2.1,this⟩
  ·rw[if_neg h2] at h
   cases h
 ·rw[if_neg h1] at h
  cases h
theorem nM.first {s:List ae} (hs:bz s=true) {n:Nat} (hn:n≤500):nM n (s,[],[]):=⟨hs,by show 0+8000*n≤9000000; omega,by show 0+n≤900000; omega⟩
section
variable {s:List ae} (h1 : ∀ c∈s,c.2.1.size≤9223372036854775807) (h2:s.length≤1000000000) {m:List aV} (h3:m.length≤2000000) (h4 : ∀ x∈m,x.2.2.1.size≤1000000000) {fuel:Int}
include h1 h2 h3 h4
theorem Fj:Ba s m fuel=some ((rz s m fuel,()),()):=by
 rw[P0,Qh h1 h2,Option.bind_some]
 unfold rz
 cases bz s with
 | false=>rfl
 | true =>
  dsimp only
  rw[if_neg (by decide),if_pos rfl,Qn h3 h4,Option.bind_some]
  cases jC m with
  | false=>rfl
  | true =>
   dsimp only
   rw[if_neg (by decide),ge,Option.bind_some]
   cases cg fuel 0 400 with
   | false=>rfl
   | true=>rfl
theorem Li:He s m fuel=some ((rz s m fuel,()),()):=by
 rw[U0,Qi h1 (by omega),Option.bind_some]
 unfold rz
 cases bz s with
 | false=>rfl
 | true =>
  dsimp only
  rw[if_neg (by decide),if_pos rfl,Qo h3 h4,Option.bind_some]
  cases jC m with
  | false=>rfl
  | true =>
   dsimp only
   rw[if_neg (by decide),jL,Option.bind_some]
   cases cg fuel 0 400 with
   | false=>rfl
   | true=>rfl
omit h1 h2 h3 h4 in
theorem RP (h:rz s m fuel=0):qE m fuel s [] []=some (((mK s m fuel).1,((mK s m fuel).2.1:Int),()),(((mK s m fuel).2.2.1,(mK s m fuel).2.2.2.1,(mK s m fuel).2.2.2.2,()),())):=by
 obtain⟨hs,hm,hf0,hf1⟩:=wM h
 have e:=Pd hm (fuel:=fuel) ⟨hf0,by omega⟩ fuel.toNat 0 0 (s,[],[]) (nM.first hs (by omega)) (Int.le_refl _) (by omega) (Int.le_refl _) (by omega)
 have e2:lH m fuel 0 0 s [] []=af m fuel 0 0 s [] []:=by
  conv=>rhs; rw[i6]
  rw[Df]
  by_cases q1:decide ((0:Int) < (m.length:Int))=true
  ·rw[if_pos q1,if_pos q1]
   by_cases q2:((0:Int) == fuel)=true
   ·rw[if_pos q2,if_pos q2]
   ·rw[if_neg q2,if_neg q2]
    refine congrArg (ix m 0 aG.dflt) (funext fun y1 => ?_)
    by_cases q3:(y1.1 != 2)=true
    ·rw[if_pos q3,if_pos q3]
    ·have q4:y1.1=2:=by
      rcases Decidable.em (y1.1=2) with h | h
      ·exact h
      ·exact absurd (bne_iff_ne.2 h) q3
     rw[if_neg q3,if_neg q3,aB (by omega),aB (by omega)]
  ·rw[if_neg q1,if_neg q1]
 rw[HD,e2]
 refine Eq.trans e ?_
 rw[Int.zero_add]
 rfl
omit h1 h2 h3 h4 in
theorem RQ (h:rz s m fuel=0) : ∃ j,Ea s m fuel=some ((((mK s m fuel).2.2.1,j,((mK s m fuel).2.1:Int),(mK s m fuel).1,(mK s m fuel).2.2.2.1,(mK s m fuel).2.2.2.2,()),()),()):=by
 obtain⟨hs,hm,hf0,hf1⟩:=wM h
 have hn:=bn hs
 obtain⟨j,e⟩:=Pe hm (fuel:=fuel) ⟨hf0,by omega⟩ (u:=0) (v:=0) (w:=0) (j1:=[]) (j2:=[]) (j3:=[]) fuel.toNat 0 0 (s,[],[]) (nM.first hs (by omega)) (Int.le_refl _) (by omega) (Int.le_refl _) (by omega)
 refine⟨j,?_⟩
 have e2:Be m fuel 0 0 0 0 0 0 [] [] [] s [] []=aW m fuel 0 0 0 s 0 0 0 [] [] [] [] []:=by
  conv=>rhs; rw[kf]
  rw[LM]
 rw[SQ,bd (by simp only[List.length_nil]; omega),List.nil_append,e2]
 refine Eq.trans e ?_
 rw[Int.zero_add]
 rfl
theorem Pf:xj s m fuel=some (Im s m fuel,()):=by
 rw[Nz,Fj h1 h2 h3 h4,Option.bind_some]
 unfold Im
 by_cases h:rz s m fuel=0
 ·have hn:=bn (wM h).1
  rw[if_pos h]
  dsimp only
  rw[if_neg (by rw[bne_iff_ne]; exact fun x=>x h),yL (by omega),Option.bind_some]
  dsimp only
  rw[RP h,Option.bind_some]
  dsimp only
  by_cases hc:(mK s m fuel).1=0
  ·rw[if_neg (by rw[bne_iff_ne]; exact fun x=>x hc),if_pos hc,hc]
  ·rw[if_pos (by rw[bne_iff_ne]; exact hc),if_neg hc]
   rfl
 ·rw[if_neg h]
  dsimp only
  rw[if_pos (by rw[bne_iff_ne]; exact h)]
theorem Pg:CZ s m fuel=some (Im s m fuel,()):=by
 rw[Np,Li h1 h2 h3 h4,Option.bind_some]
 unfold Im
 by_cases h:rz s m fuel=0
 ·have hn:=bn (wM h).1
  obtain⟨j,e⟩:=RQ h
  rw[if_pos h]
  dsimp only
  rw[if_neg (by rw[bne_iff_ne]; exact fun x=>x h),e,Option.bind_some]
  dsimp only
  by_cases hc:(mK s m fuel).1=0
  ·rw[if_neg (by rw[bne_iff_ne]; exact fun x=>x hc),if_pos hc,hc]
  ·rw[if_pos (by rw[bne_iff_ne]; exact hc),if_neg hc,bd (by simp only[List.length_nil]; omega)]
   rfl
 ·rw[if_neg h]
  dsimp only
  rw[if_pos (by rw[bne_iff_ne]; exact h)]
theorem TV:Eg s m fuel=some (wL s m fuel,()):=by
 rw[Ta,Fj h1 h2 h3 h4,Option.bind_some]
 unfold wL
 by_cases h:rz s m fuel=0
 ·have hn:=bn (wM h).1
  rw[if_pos h]
  dsimp only
  rw[if_neg (by rw[bne_iff_ne]; exact fun x=>x h),yL (by omega),Option.bind_some]
  dsimp only
  rw[RP h,Option.bind_some]
 ·rw[if_neg h]
  dsimp only
  rw[if_pos (by rw[bne_iff_ne]; exact h)]
theorem TW:IM s m fuel=some (wL s m fuel,()):=by
 rw[S9,Li h1 h2 h3 h4,Option.bind_some]
 unfold wL
 by_cases h:rz s m fuel=0
 ·obtain⟨j,e⟩:=RQ h
  rw[if_pos h]
  dsimp only
  rw[if_neg (by rw[bne_iff_ne]; exact fun x=>x h),e,Option.bind_some]
 ·rw[if_neg h]
  dsimp only
  rw[if_pos (by rw[bne_iff_ne]; exact h)]
end
section
variable {s t:List ae} (hs:bz s=true) (ht:bz t=true)
include hs ht
end
theorem X1 {m:List aV} {n:Nat} {i:Int} {st:nE} (h : ¬i < (m.length:Int)):eF m n i st=(0,0,st):=by
 cases n with
 | zero =>
  unfold eF
  rw[if_neg h]
 | succ n =>
  unfold eF
  rw[if_neg h]
theorem Zf {m:List aV} {n:Nat} {i:Int} {st:nE} (h:i < (m.length:Int)) (hc:(bW (m.getD i.toNat aG.dflt) i st).1=0):eF m (n+1) i st=((eF m n (bW (m.getD i.toNat aG.dflt) i st).2.1 (bW (m.getD i.toNat aG.dflt) i st).2.2).1,(eF m n (bW (m.getD i.toNat aG.dflt) i st).2.1 (bW (m.getD i.toNat aG.dflt) i st).2.2).2.1+1,(eF m n (bW (m.getD i.toNat aG.dflt) i st).2.1 (bW (m.getD i.toNat aG.dflt) i st).2.2).2.2):=by
 conv=>lhs; unfold eF
 rw[if_pos h,if_pos hc]
theorem Zg {m:List aV} {n:Nat} {i:Int} {st:nE} (h:i < (m.length:Int)) (hc : ¬(bW (m.getD i.toNat aG.dflt) i st).1=0):eF m (n+1) i st=((bW (m.getD i.toNat aG.dflt) i st).1,1,(bW (m.getD i.toNat aG.dflt) i st).2.2):=by
 conv=>lhs; unfold eF
 rw[if_pos h,if_neg hc]
structure Eu (st st':nE):Prop where
 lk : ∀ a∈st.2.1,a∈st'.2.1
 se : ∀ r∈st.2.2,r∈st'.2.2
 at' : ∀ q,q ∉ st'.2.2→gH q st'.1=gH q st.1
theorem Eu.refl (st:nE):Eu st st:=⟨fun _ h=>h,fun _ h=>h,fun _ _=>rfl⟩
theorem Eu.trans {a b c:nE} (h:Eu a b) (k:Eu b c):Eu a c:=⟨fun x hx=>k.lk x (h.lk x hx),fun x hx=>k.se x (h.se x hx),fun q hq=>(k.at' q hq).trans (h.at' q fun hx=>hq (k.se q hx))⟩
section
variable {m:List aV} (hm:jC m=true)
include hm
end
section
variable {s t:List ae} (hs:bz s=true) (ht:bz t=true) {q:ao} (hag : ∀ r,r≠q→gH r s=gH r t)
include hs ht hag
end
section
variable {q:ao} {B:List ao} (hb:B.length≤110)
include hb
variable {m:List aV} (hm:jC m=true) (hB : ∀ x∈m,x.2.1∈B)
include hm hB
end
theorem Ew {α β:Type} {pre ys:List α} {y:α} {k:Option β}:inb (pre++y :: ys) (pre.length:Int) k=k:=gZ rfl
theorem Ph {α β:Type} {pre ys:List α} {y d:α} {f:α→Option β}:ix (pre++y :: ys) (pre.length:Int) d f=f y:=br rfl
theorem Ci : ∀(n m:Nat) (acc:ByteArray),m≤n→acc.size+n≤1000000000000000000 → ∃ t,qY (m:Int) acc=some ((t,()),())
 | n,0,acc,h,ha=>by
  rw[xD,aA (by decide),fy (by show 1+acc.size≤_; omega)]
  exact⟨_,rfl⟩
 | 0,m+1,acc,h,ha=>by omega
 | n+1,m+1,acc,h,ha=>by
  have hd:(m+1) / 10≤n:=by omega
  have hs:(strOfNums ([(IntKind.u8.wrap (IntKind.i64.wrap (48+(Int.tmod ((m+1:Nat):Int) 10))))]:List Int)).size=1:=rfl
  obtain⟨t,ht⟩:=Ci n ((m+1) / 10) (strOfNums ([(IntKind.u8.wrap (IntKind.i64.wrap (48+(Int.tmod ((m+1:Nat):Int) 10))))]:List Int)++acc) hd (by rw[ByteArray.size_append,hs]; omega)
  rw[xD,aB (by omega),fy (by rw[hs]; omega)]
  have e:IntKind.i64.wrap (Int.tdiv ((m+1:Nat):Int) 10)=(((m+1) / 10:Nat):Int):=by
   have:Int.tdiv ((m+1:Nat):Int) 10=(((m+1) / 10:Nat):Int):=rfl
   rw[this,wr (by omega) (by omega)]
  rw[e]
  exact⟨t,ht⟩
theorem Fk {k:Int} (h0:0≤k) (h1:k≤100000000000000) : ∃ t,tg k=some ((t,()),()):=by
 obtain⟨n,rfl⟩:=Int.eq_ofNat_of_zero_le h0
 rw[NA]
 by_cases h:(n:Int)≤0
 ·rw[aB h]
  exact⟨_,rfl⟩
 ·rw[aA h]
  exact Ci n n _ (Nat.le_refl _) (by show 0+n≤_; omega)
theorem Ex {α β:Type} {pre ys:List α} {y d:α} {f:α→α} {k:List α→β}:fH d (pre++y :: ys) (pre.length:Int) f k=k (pre++f y :: ys):=by
 unfold fH
 rw[gC,CJ]
theorem tK {α:Type} {M:Int→Int→List α→Option ((Int×Unit)×(List α×Unit))} {H:List α→Int→Int→Option ((Int×Unit)×Unit)} {w:Nat} (hw:w≤10)
  (hM : ∀ k pre y ys,0≤k→k≤10000000000000→(pre++y :: ys).length≤1000000000 → ∃ z,M k (pre.length:Int) (pre++y :: ys)=M (k+w) ((pre.length:Int)+1) (pre++z :: ys) ∧ ∀ pre' ys',(pre'++z :: ys').length≤1000000000→H (pre'++z :: ys') k (pre'.length:Int)=H (pre'++z :: ys') (k+w) ((pre'.length:Int)+1))
  (hM0 : ∀ k pre,M k (pre.length:Int) pre=some ((k,()),(pre,()))) (hH0 : ∀ k pre,H pre k (pre.length:Int)=some ((k,()),())) :
  ∀(ys pre:List α) (k:Int),0≤k→k+10*ys.length≤10000000000000→(pre++ys).length≤1000000000 → ∃ zs,zs.length=ys.length∧M k (pre.length:Int) (pre++ys)=some ((k+w*ys.length,()),(pre++zs,())) ∧ ∀ pre',pre'.length+ys.length≤1000000000→H (pre'++zs) k (pre'.length:Int)=some ((k+w*ys.length,()),())
 | [],pre,k,h0,h1,hl=>by
  refine⟨[],rfl,?_,fun pre' _ => ?_⟩
  ·rw[List.append_nil,hM0]
   simp
  ·rw[List.append_nil,hH0]
   simp
 | y :: ys,pre,k,h0,h1,hl=>by
  rw[List.length_cons] at h1
  obtain⟨z,hz1,hz2⟩:=hM k pre y ys h0 (by omega) hl
  obtain⟨zs,e0,e1,e2⟩:=tK hw hM hM0 hH0 ys (pre++[z]) (k+w) (by omega) (by omega) (by simp only[List.length_append,List.length_cons,List.length_nil] at hl ⊢; omega)
  have ek:k+(w:Int)+(w:Int)*(ys.length:Int)=k+(w:Int)*((y :: ys).length:Int):=by
   rw[List.length_cons,Int.natCast_add,Int.mul_add]
   omega
  refine⟨z :: zs,by simp[e0],?_,fun pre' hp => ?_⟩
  ·rw[hz1]
   have:((pre++[z]).length:Int)=(pre.length:Int)+1:=by simp
   rw[this] at e1
   have e3:pre++[z]++ys=pre++z :: ys:=by simp
   have e4:pre++[z]++zs=pre++z :: zs:=by simp
   rw[e3,e4,ek] at e1
   exact e1
  ·rw[List.length_cons] at hp
   rw[hz2 pre' zs (by simp only[List.length_append,List.length_cons]; omega)]
   have:=e2 (pre'++[z]) (by simp only[List.length_append,List.length_singleton]; omega)
   have e5:((pre'++[z]).length:Int)=(pre'.length:Int)+1:=by simp
   have e4:pre'++[z]++zs=pre'++z :: zs:=by simp
   rw[e5,e4,ek] at this
   exact this
theorem yP {s:List ae} {k:Int} (h0:0≤k) (h1:k+10*s.length≤10000000000000) (hl:s.length≤1000000000) : ∃ zs,zs.length=s.length∧mf k s=some ((k+3*s.length,()),(zs,()))∧uG zs k=some ((k+3*s.length,()),()):=by
 obtain⟨zs,e0,e1,e2⟩:=tK (M:=fun k i s=>lI k i s) (H:=fun s k i=>oE s k i) (w:=3) (by decide) (fun k pre y ys h0 h1 hl=>by
  have hp:pre.length < 1000000000:=by simp only[List.length_append,List.length_cons] at hl; omega
  obtain⟨t,ht⟩:=Fk (k:=k+1+1) (by omega) (by omega)
  refine⟨((k,k+1,()),t,()),?_,fun pre' ys' hl' => ?_⟩
  ·rw[tv,aB nS]
   simp only[Ew,gC,CJ,Ex]
   have a1:IntKind.i64.wrap (k+1)=k+1:=wr (by omega) (by omega)
   have a2:IntKind.i64.wrap (k+1+1)=k+1+1:=wr (by omega) (by omega)
   have a3:IntKind.i64.wrap (k+1+1+1)=k+3:=by rw[wr (by omega) (by omega)]; omega
   have a4:IntKind.i64.wrap ((pre.length:Int)+1)=(pre.length:Int)+1:=wr (by omega) (by omega)
   simp only[a1,a2,a3,a4,ht,Option.bind_some]
   rfl
  ·have hp':pre'.length < 1000000000:=by simp only[List.length_append,List.length_cons] at hl'; omega
   rw[wg,aB nS]
   simp only[Ph]
   have a1:IntKind.i64.wrap (k+1)=k+1:=wr (by omega) (by omega)
   have a2:IntKind.i64.wrap (k+1+1)=k+1+1:=wr (by omega) (by omega)
   have a3:IntKind.i64.wrap (k+1+1+1)=k+3:=by rw[wr (by omega) (by omega)]; omega
   have a4:IntKind.i64.wrap ((pre'.length:Int)+1)=(pre'.length:Int)+1:=wr (by omega) (by omega)
   simp only[a1,a2,a3,a4,ht,Option.bind_some]
   simp)
  (fun k pre=>by rw[tv,aA (Int.lt_irrefl _)]) (fun k pre=>by rw[wg,aA (Int.lt_irrefl _)]) s [] k h0 h1 (by simpa using hl)
 refine⟨zs,e0,?_,?_⟩
 ·rw[HE]
  exact e1
 ·rw[LK]
  exact e2 [] (by simp; omega)
theorem TX {s:List ao} {k:Int} (h0:0≤k) (h1:k+10*s.length≤10000000000000) (hl:s.length≤1000000000) : ∃ zs,zs.length=s.length∧yk k s=some ((k+2*s.length,()),(zs,()))∧xk zs k=some ((k+2*s.length,()),()):=by
 obtain⟨zs,e0,e1,e2⟩:=tK (M:=fun k i s=>ng k i s) (H:=fun s k i=>q5 s k i) (w:=2) (by decide) (fun k pre y ys h0 h1 hl=>by
  have hp:pre.length < 1000000000:=by simp only[List.length_append,List.length_cons] at hl; omega
  refine⟨(k,k+1,()),?_,fun pre' ys' hl' => ?_⟩
  ·rw[ue,aB nS]
   simp only[Ew,gC,CJ,Ex]
   have a1:IntKind.i64.wrap (k+1)=k+1:=wr (by omega) (by omega)
   have a3:IntKind.i64.wrap (k+1+1)=k+2:=by rw[wr (by omega) (by omega)]; omega
   have a4:IntKind.i64.wrap ((pre.length:Int)+1)=(pre.length:Int)+1:=wr (by omega) (by omega)
   simp only[a1,a3,a4]
   rfl
  ·have hp':pre'.length < 1000000000:=by simp only[List.length_append,List.length_cons] at hl'; omega
   rw[xE,aB nS]
   simp only[Ph]
   have a1:IntKind.i64.wrap (k+1)=k+1:=wr (by omega) (by omega)
   have a3:IntKind.i64.wrap (k+1+1)=k+2:=by rw[wr (by omega) (by omega)]; omega
   have a4:IntKind.i64.wrap ((pre'.length:Int)+1)=(pre'.length:Int)+1:=wr (by omega) (by omega)
   simp only[a1,a3,a4]
   simp)
  (fun k pre=>by rw[ue,aA (Int.lt_irrefl _)]) (fun k pre=>by rw[xE,aA (Int.lt_irrefl _)]) s [] k h0 h1 (by simpa using hl)
 refine⟨zs,e0,?_,?_⟩
 ·rw[IU]
  exact e1
 ·rw[NB]
  exact e2 [] (by simp; omega)
theorem Fl {s:List aV} {k:Int} (h0:0≤k) (h1:k+10*s.length≤10000000000000) (hl:s.length≤1000000000) : ∃ zs,zs.length=s.length∧qF k s=some ((k+5*s.length,()),(zs,())):=by
 obtain⟨zs,e0,e1,e2⟩:=tK (M:=fun k i s=>lJ k i s) (H:=fun s k i=>if(s.length:Int)=i then some ((k,()),()) else some ((k+(5:Nat)*((s.length:Int) - i),()),())) (w:=5) (by decide) (fun k pre y ys h0 h1 hl=>by
  have hp:pre.length < 1000000000:=by simp only[List.length_append,List.length_cons] at hl; omega
  obtain⟨t,ht⟩:=Fk (k:=k+3) (by omega) (by omega)
  refine⟨(k,(k+1,k+2,()),t,k+4,()),?_,fun pre' ys' hl' => ?_⟩
  ·rw[tw,aB nS]
   have a1:IntKind.i64.wrap (k+1)=k+1:=wr (by omega) (by omega)
   have a2:IntKind.i64.wrap (k+1+1)=k+2:=by rw[wr (by omega) (by omega)]; omega
   have a3:IntKind.i64.wrap (k+2+1)=k+3:=by rw[wr (by omega) (by omega)]; omega
   have a4:IntKind.i64.wrap (k+3+1)=k+4:=by rw[wr (by omega) (by omega)]; omega
   have a5:IntKind.i64.wrap (k+4+1)=k+5:=by rw[wr (by omega) (by omega)]; omega
   have b:IntKind.i64.wrap ((pre.length:Int)+1)=(pre.length:Int)+1:=wr (by omega) (by omega)
   simp only[a1,a2,a3,a4,a5,b,ht,Option.bind_some,Ew,Ex]
   rfl
  ·have:((pre'++(k,(k+1,k+2,()),t,k+4,()) :: ys').length:Int)=(pre'.length:Int)+1+ys'.length:=by simp; omega
   rw[this,if_neg (by omega)]
   split
   ·congr 3
    omega
   ·congr 3
    omega)
  (fun k pre=>by rw[tw,aA (Int.lt_irrefl _)]) (fun k pre=>by rw[if_pos rfl]) s [] k h0 h1 (by simpa using hl)
 refine⟨zs,e0,?_⟩
 rw[HF]
 exact e1
theorem Qp {s:List ag} {k:Int} (h0:0≤k) (h1:k+10*s.length≤10000000000000) (hl:s.length≤1000000000) : ∃ zs,zs.length=s.length∧vO k s=some ((k+4*s.length,()),(zs,()))∧uH zs k=some ((k+4*s.length,()),()):=by
 obtain⟨zs,e0,e1,e2⟩:=tK (M:=fun k i s=>lK k i s) (H:=fun s k i=>oF s k i) (w:=4) (by decide) (fun k pre y ys h0 h1 hl=>by
  have hp:pre.length < 1000000000:=by simp only[List.length_append,List.length_cons] at hl; omega
  refine⟨((k,k+1,()),(k+2,k+3,()),()),?_,fun pre' ys' hl' => ?_⟩
  ·rw[tx,aB nS]
   have a1:IntKind.i64.wrap (k+1)=k+1:=wr (by omega) (by omega)
   have a2:IntKind.i64.wrap (k+1+1)=k+2:=by rw[wr (by omega) (by omega)]; omega
   have a3:IntKind.i64.wrap (k+2+1)=k+3:=by rw[wr (by omega) (by omega)]; omega
   have a4:IntKind.i64.wrap (k+3+1)=k+4:=by rw[wr (by omega) (by omega)]; omega
   have b:IntKind.i64.wrap ((pre.length:Int)+1)=(pre.length:Int)+1:=wr (by omega) (by omega)
   simp only[a1,a2,a3,a4,b,Option.bind_some,Ew,Ex]
   rfl
  ·have hp':pre'.length < 1000000000:=by simp only[List.length_append,List.length_cons] at hl'; omega
   rw[wh,aB nS]
   have a1:IntKind.i64.wrap (k+1)=k+1:=wr (by omega) (by omega)
   have a2:IntKind.i64.wrap (k+1+1)=k+2:=by rw[wr (by omega) (by omega)]; omega
   have a3:IntKind.i64.wrap (k+2+1)=k+3:=by rw[wr (by omega) (by omega)]; omega
   have a4:IntKind.i64.wrap (k+3+1)=k+4:=by rw[wr (by omega) (by omega)]; omega
   have b:IntKind.i64.wrap ((pre'.length:Int)+1)=(pre'.length:Int)+1:=wr (by omega) (by omega)
   simp only[Ph,a1,a2,a3,a4,b,Option.bind_some,bne_self_eq_false,beq_self_eq_true,Bool.not_true,Bool.false_eq_true,if_false]
   rfl)
  (fun k pre=>by rw[tx,aA (Int.lt_irrefl _)]) (fun k pre=>by rw[wh,aA (Int.lt_irrefl _)]) s [] k h0 h1 (by simpa using hl)
 refine⟨zs,e0,?_,?_⟩
 ·rw[HG]
  exact e1
 ·rw[LL]
  exact e2 [] (by simp; omega)
end Go.Proofs.YteaahciglahehaaGreatDoor.Abs
