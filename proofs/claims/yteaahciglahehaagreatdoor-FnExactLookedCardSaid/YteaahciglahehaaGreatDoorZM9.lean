/- Plain laws: a right formula's text is read as the formula: atoms, signs, arguments. -/
import Derived.Test.YteaahciglahehaaGreatDoorZM8
set_option linter.unusedVariables false
set_option linter.unusedSimpArgs false
set_option linter.unusedSectionVars false
namespace Go.Proofs.YteaahciglahehaaGreatDoor.Abs
open Go
theorem YV (u:Nat):(Lib.decDigits u).all bh=true:=Z0 (Jc (wq u))
section
variable {f:List aa} {n:Nat} {k L:Int}
end
section
variable {f:List aa} (hf:f.length≤60)
include hf
end
def AB (c:UInt8):Bool:=decide (32≤c.toNat) && decide (c.toNat≤126)
theorem OL {l:al}:plain (ba l)=l.all AB:=by
 unfold plain
 rw[Vo,List.all_map]
 congr 1
 funext c
 simp only[Function.comp,tA,AB]
 rw[Bool.eq_iff_iff]
 simp only[decide_eq_true_eq,Bool.and_eq_true]
 omega
theorem aar {w:al} (h:w.all bh=true):w.all AB=true:=by
 rw[List.all_eq_true] at h ⊢
 intro c hc
 exact Dq (p:=fun c=>bh c=true→AB c=true) (by decide +kernel) c (h c hc)
def fT (f:List aa):al:=df f f.length ((f.length:Int) - 1) 1
noncomputable def iX (x:ByteArray):List aa×Bool:=if h:x.size≤9223372036854775807 then((L2 h).choose,(L2 h).choose_spec.choose) else([],false)
theorem tG {x:ByteArray} (h:x.size≤9223372036854775807):j6 x=some (((iX x).1,(iX x).2,()),())∧j9 x=some (((iX x).1,(iX x).2,()),())∧((iX x).2=true→fF (iX x).1=true)∧((iX x).2=false→(iX x).1=[]):=by
 unfold iX
 rw[dif_pos h]
 exact(L2 h).choose_spec.choose_spec
def kO (f:List aa):al:=if fF f=true∧(fT f).length≤200 then fT f else []
theorem tH {f:List aa} (h:fF f=true):f.length≤60∧(∀ x∈f,x.2.2.1.2.2.1.size≤9223372036854775807) ∧ ∀ x∈f,x.2.2.2.2.2.1.length≤10000000:=by
 have hs:dw f=true:=by
  unfold dw
  rw[List.all_eq_true]
  intro y hy
  obtain⟨i,hi⟩:=List.getElem?_of_mem hy
  exact(np h i y hi).1
 have ho':=h
 unfold fF at ho'
 rw[Bool.and_eq_true] at ho'
 have:=bw.1 ho'.1
 exact⟨by omega,Oy (wB hs),Oz (wB hs)⟩
theorem XF {f:List aa} (hl:f.length≤10000000) (hs : ∀ x∈f,x.2.2.1.2.2.1.size≤9223372036854775807) (hk : ∀ x∈f,x.2.2.2.2.2.1.length≤10000000):qD f=some ((ba (kO f),()),())∧qx f=some ((ba (kO f),()),()):=by
 rw[xv,xt,oI hl hs hk,k8 hl hs hk]
 simp only[Option.bind_some]
 unfold kO
 cases ho:fF f with
 | false=>exact⟨rfl,rfl⟩
 | true =>
  simp only[Bool.not_true,Bool.false_eq_true,if_false]
  have ho':=ho
  unfold fF at ho'
  rw[Bool.and_eq_true] at ho'
  have hlen:=bw.1 ho'.1
  have ht:=ho'.2
  unfold wn at ht
  cases hc:fD f f.length ((f.length:Int) - 1) with
  | none=>rw[hc] at ht; cases ht
  | some p =>
   obtain⟨h1,h2⟩:=Jn (by omega) f.length ((f.length:Int) - 1) p.1 p.2 hc
   rw[wr (by omega) (by omega),(h1 1).1,(h1 0).2,H9]
   simp only[Option.bind_some,aQ]
   by_cases hb:(fT f).length≤200
   ·have hb':(df f f.length ((f.length:Int) - 1) 1).length≤200:=hb
    rw[aA (by omega),if_pos (by simp[hb])]
    exact⟨rfl,rfl⟩
   ·have hb' : ¬(df f f.length ((f.length:Int) - 1) 1).length≤200:=hb
    rw[aB (by omega),if_neg (fun h=>hb h.2)]
    exact⟨rfl,rfl⟩
theorem VU (f:List aa):(kO f).length≤200:=by
 unfold kO
 split
 ·rename_i h
  exact h.2
 ·exact Nat.zero_le _
noncomputable def wD (w:al):al×Bool :=
 if w=[] then([],true)
 else if(w.all AB && decide (w.length≤200))=false then([],false)
 else if w.head? = some 61 then(let r:=iX (ba (w.drop 1)); if r.2=true∧kO r.1≠[]∧(kO r.1).length < 200 then(61 :: kO r.1,true) else([],false))
 else if gh w=true then(lb (cP (kN w)),true)
 else if(bB w).2=true then(w,true)
 else if w.length=200 then([],false) else(39 :: w,true)
theorem aaG {w:al} (hx:w.length≤9223372036854775807):mb (ba w)=some ((ba (wD w).1,(wD w).2,()),()):=by
 rw[yy,om (by rw[aQ]; exact hx)]
 simp only[Option.bind_some]
 have e0 : ∀ x:al,(ByteArray.toList (ba x) == ByteArray.toList (⟨#[]⟩:ByteArray))=decide (x=[]):=fun x=>dF (b:=[])
 have e1:(plain (ba w) && decide (((ba w).size:Int)≤200))=(w.all AB && decide (w.length≤200)):=by
  rw[OL,aQ]
  congr 1
  rw[Bool.eq_iff_iff,decide_eq_true_eq,decide_eq_true_eq]
  omega
 rw[e0,e1]
 unfold wD
 by_cases hw:w=[]
 ·subst hw
  rfl
 ·rw[if_neg hw,decide_eq_false hw]
  cases hp:(w.all AB && decide (w.length≤200)) with
  | false=>rfl
  | true =>
   rw[if_neg (by decide)]
   have hp':=hp
   rw[Bool.and_eq_true,decide_eq_true_eq] at hp'
   have hl:=hp'.2
   simp only[Bool.not_true,Bool.false_eq_true,if_false]
   cases w with
   | nil=>exact absurd rfl hw
   | cons c l =>
    rw[re,F7 c 61 (n:=61) rfl]
    by_cases hc:c=61
    ·subst hc
     have hll:l.length≤200:=by rw[List.length_cons] at hl; omega
     simp only[List.head?_cons,decide_true,if_true,List.drop_succ_cons,List.drop_zero]
     rw[show(1:Int)=((1:Nat):Int) from rfl,fR (by simp)]
     simp only[List.drop_succ_cons,List.drop_zero]
     obtain⟨r1,_,r3,r4⟩:=tG (x:=ba l) (by rw[aQ]; omega)
     rw[r1]
     simp only[Option.bind_some]
     have hsm:(iX (ba l)).1.length≤10000000∧(∀ x∈(iX (ba l)).1,x.2.2.1.2.2.1.size≤9223372036854775807) ∧ ∀ x∈(iX (ba l)).1,x.2.2.2.2.2.1.length≤10000000:=by
      cases hb:(iX (ba l)).2 with
      | false=>rw[r4 hb]; simp
      | true =>
       have:=tH (r3 hb)
       exact⟨by omega,this.2⟩
     have hfl:=VU (iX (ba l)).1
     rw[(XF hsm.1 hsm.2.1 hsm.2.2).2]
     simp only[Option.bind_some]
     rw[e0,aQ,show(⟨#[61]⟩:ByteArray)=ba [61] from rfl,bF (by simp only[List.length_singleton]; omega),wr (by omega) (by omega)]
     cases hb:(iX (ba l)).2 with
     | false=>simp
     | true =>
      by_cases h1:kO (iX (ba l)).1=[]
      ·simp[h1]
      ·by_cases h2:(kO (iX (ba l)).1).length < 200
       ·rw[aA h1,aA (by omega)]
        simp[h1,h2]
       ·rw[aA h1,aB (by omega)]
        simp[h1,h2]
    ·have hnc : ¬(c :: l).head? = some (61:UInt8):=by simpa using hc
     rw[if_neg hnc]
     simp only[hc,decide_false,Bool.false_eq_true,if_false]
     generalize hwd:(c :: l:al)=w at *
     have hsz:(ba w).size=w.length:=aQ w
     obtain⟨v,n1,n2⟩:=DC hw (by omega)
     rw[n1,oM (by omega)]
     simp only[Option.bind_some]
     cases ho:gh w with
     | true =>
      have hrg:=Ie ho
      have hok:ax (vN (kN w))=true:=by
       rw[XD]
       exact bw.2 hrg
      rw[n2 ho]
      simp only[if_true]
      rw[eI (co hok),if_pos hok]
      simp only[Option.bind_some,d9]
      rfl
     | false =>
      simp only[Bool.false_eq_true,if_false]
      cases hr:(bB w).2 with
      | true =>
       obtain⟨k1,k2⟩:=ph hr
       simp only[Bool.not_true,Bool.false_eq_true,if_false]
       rw[eI (co k1),if_pos k1,k2]
       simp only[Option.bind_some]
       rw[aA (by rw[hsz]; omega)]
       rfl
      | false =>
       simp only[Bool.not_false,Bool.false_eq_true,if_false,if_true]
       have hov:ax (2,0,ba w,())=true:=by
        unfold ax
        rw[if_pos rfl]
        simp only[decide_true,Bool.true_and]
        rw[e1]
        exact hp
       have htx:bG (2,0,ba w,())=ba (39 :: w):=by
        show(⟨#[39]⟩:ByteArray)++ba w=_
        rw[show(⟨#[39]⟩:ByteArray)=ba [39] from rfl,k9]
        rfl
       rw[eI (co hov),if_pos hov,htx]
       simp only[Option.bind_some,aQ,List.length_cons]
       by_cases h2:w.length=200
       ·rw[aB (by omega),if_pos h2]
        rfl
       ·rw[aA (by omega),if_neg h2]
        rfl
theorem Rs {w:al} (hx:w.length≤9223372036854775807):hZ (ba w)=(ba (wD w).1,(wD w).2):=by
 have h:=(wC (x:=ba w) (by rw[aQ]; exact hx)).2.1
 rw[aaG hx] at h
 have:=Option.some.inj h
 exact Prod.ext (congrArg (fun z=>z.1.1) this).symm (congrArg (fun z=>z.1.2.1) this).symm
theorem OM {n:Int} (h0 : -1000000000000000≤n) (h1:n≤1000000000000000):gh (lb (cP n))=true∧kN (lb (cP n))=n∧(lb (cP n)).all AB=true∧(lb (cP n)).head? ≠ some 61∧(lb (cP n)).length≤20∧lb (cP n)≠[]:=by
 have hsz:=uT (n:=n) (by omega) (by omega)
 have hd : ∀ u:Nat,u≤1000000000000000→(Lib.decDigits u).all dt=true∧bE 0 (Lib.decDigits u)=u∧Lib.decDigits u≠[]∧(Lib.decDigits u).head? ≠ some 45∧(Lib.decDigits u).head? ≠ some 61∧(Lib.decDigits u).all AB=true:=by
  intro u hu
  have ha:=Jc (wq u)
  refine⟨ha,rU u,Dz.1,Dz.2.2.2.1,?_,aar (YV u)⟩
  intro h
  cases hdd:Lib.decDigits u with
  | nil=>rw[hdd] at h; cases h
  | cons c t =>
   rw[hdd] at h ha
   simp only[List.head?_cons,Option.some.injEq] at h
   subst h
   simp[dt] at ha
 by_cases hn:n < 0
 ·obtain⟨d1,d2,d3,d4,d5,d6⟩:=hd (-n).toNat (by omega)
  have e:lb (cP n)=45 :: Lib.decDigits (-n).toNat:=by rw[xV hn,dv]
  rw[←jk,e] at hsz
  rw[e]
  have hm:iW (45 :: Lib.decDigits (-n).toNat)=Lib.decDigits (-n).toNat:=rfl
  have hg:OI (45 :: Lib.decDigits (-n).toNat)=true:=rfl
  refine⟨?_,?_,?_,by simp,hsz,by simp⟩
  ·unfold gh jB
   rw[hm,d1,d2,decide_eq_true d3,decide_eq_true (by omega)]
   rfl
  ·unfold kN r8
   rw[hm,hg,d2,if_pos rfl]
   omega
  ·rw[List.all_cons,d6]
   rfl
 ·obtain⟨d1,d2,d3,d4,d5,d6⟩:=hd n.toNat (by omega)
  have e:lb (cP n)=Lib.decDigits n.toNat:=by
   rw[show cP n=cP (n.toNat:Int) by rw[show(n.toNat:Int)=n by omega],pg,dv]
  rw[←jk,e] at hsz
  rw[e]
  have hm:iW (Lib.decDigits n.toNat)=Lib.decDigits n.toNat:=if_neg d4
  have hg:OI (Lib.decDigits n.toNat)=false:=decide_eq_false d4
  refine⟨?_,?_,d6,d5,hsz,d3⟩
  ·unfold gh jB
   rw[hm,d1,d2,decide_eq_true d3,decide_eq_true (by omega)]
   rfl
  ·unfold kN r8
   rw[hm,hg,d2,if_neg (by decide)]
   omega
theorem Rt {w:al} (hw:w≠[]) (hp:(w.all AB && decide (w.length≤200))=true):wD w=if w.head? = some 61 then(let r:=iX (ba (w.drop 1)); if r.2=true∧kO r.1≠[]∧(kO r.1).length < 200 then(61 :: kO r.1,true) else([],false)) else if gh w=true then(lb (cP (kN w)),true) else if(bB w).2=true then(w,true) else if w.length=200 then([],false) else(39 :: w,true):=by
 unfold wD
 rw[if_neg hw,hp,if_neg (by decide)]
structure Mov (g:aa→aa):Prop where
 ok : ∀ x,dE x=true→dE (g x)=true
 kids : ∀ x,dE x=true→(g x).2.2.2.2.2.1=x.2.2.2.2.2.1
 six : ∀ x,dE x=true→((g x).1=6↔x.1=6)
 three : ∀ x,(g x).1=3→x.1=3
section
variable {g:aa→aa} (M:Mov g) {f:List aa}
include M
end
def aaH (row many:Int) (closed:Bool) (other n:Int):Int:=if n < row then n else if closed=false then n+many else if n < row+many then other else n - many
def rowP (row many:Int) (closed:Bool) (other:Int) (p:cb):cb:=((p.1.1,aaH row many closed other p.1.2.1,()),p.2.1,p.2.2.1,())
noncomputable def cR (x:ByteArray):Option (List aa):=if(lb x).head? = some 61∧(iX (ba ((lb x).drop 1))).2=true then some (iX (ba ((lb x).drop 1))).1 else none
theorem kP {x:ByteArray} {f:List aa} (h:cR x=some f) (hx:x.size≤9223372036854775807):fF f=true:=by
 unfold cR at h
 split at h
 ·rename_i k
  cases h
  have hl:(ba ((lb x).drop 1)).size≤9223372036854775807:=by
   rw[aQ,List.length_drop,jk]
   omega
  exact(tG hl).2.2.1 k.2
 ·cases h
section
variable {f:List aa} (hf:fF f=true)
include hf
end
section
variable {f:List aa} (hf:fF f=true)
include hf
end
theorem TM {x:ByteArray}:fL x=((hZ x).2 && !decide (x=eS) && decide ((hZ x).1=x)):=rfl
section
variable {s:List ae} (hs : ∀ c∈s,c.2.1.size≤9223372036854775807) (hl:s.length≤1000000000000)
include hs hl
theorem Cg : ∀(ys pre:List ae),s=pre++ys→oa s (pre.length:Int)=some ((DD pre.getLast? ys,()),())
 | [],pre,h=>by
  rw[Aa,aA (bj h)]
  simp only[DD]
 | y :: ys,pre,h=>by
  have hy:=hs y (by rw[h]; simp)
  have ih:=Cg ys (pre++[y]) (az h)
  rw[List.getLast?_append] at ih
  simp only[List.getLast?_singleton,Option.or_some,Option.some_or] at ih
  rw[Aa,aB (bu h),br h,(wC hy).2.1]
  simp only[Option.bind_some]
  rw[br h,mD]
  simp only[Option.bind_some,DD,br h,s4,TM]
  cases hr:bS y.1 with
  | false=>simp
  | true =>
   cases hi:(hZ y.2.1).2 with
   | false=>simp
   | true =>
    by_cases he:y.2.1=eS
    ·simp[he]
    ·by_cases hq:(hZ y.2.1).1=y.2.1
     ·rcases List.eq_nil_or_concat pre with hp | ⟨q,z,hp⟩
      ·subst hp
       rw[aJ (pre:=[]) h (by omega)]
       simp[he,hq]
       exact ih
      ·rw[List.concat_eq_append] at hp
       subst hp
       have hz:s=q++z :: (y :: ys):=by rw[h]; simp
       have hql:((q++[z]).length:Int) - 1=(q.length:Int):=by simp
       have hqs:q.length < s.length:=by rw[hz]; simp
       rw[hql,wr (by omega) (by omega),br hz,Fe,aJ h (by omega)]
       simp only[Option.bind_some,List.getLast?_append,List.getLast?_singleton,Option.some_or]
       rw[ih]
       cases ha:ck z.1 y.1 <;> simp[he,hq]
     ·simp[he,hq]
theorem Qi:FL s=some ((bz s,()),()):=by
 rw[PM]
 by_cases h:s.length≤120
 ·rw[aA (by simp; omega)]
  have:=Cg hs hl s [] rfl
  simp only[List.length_nil,Int.ofNat_zero,List.getLast?_nil] at this
  rw[this]
  simp[bz,h]
 ·rw[aB (by simp; omega)]
  simp[bz,h]
end
theorem mG {a b:ao}:(bp ap a b=true)=(a=b):=propext (nh rfl)
noncomputable def gH (r:ao):List ae→ByteArray
 | []=>eS
 | c :: cs=>if c.1=r then c.2.1 else gH r cs
theorem Ih {s:List ae} {r:ao} (hl:s.length≤1000000000000) : ∀(ys pre:List ae),s=pre++ys→Bd s (pre.length:Int) r.1 r.2.1=some ((gH r ys,()),())
 | [],pre,h=>by
  rw[E5,aA (bj h)]
  rfl
 | y :: ys,pre,h=>by
  have ih:=Ih (r:=r) hl ys (pre++[y]) (az h)
  rw[E5,aB (bu h),br h,aJ h (by omega),ih]
  show(if bp ap y.1 r=true then _ else _)=_
  by_cases e:y.1=r
  ·rw[if_pos (by rw[mG]; exact e),br h,gH,if_pos e]
  ·rw[if_neg (by rw[mG]; exact e),gH,if_neg e]
theorem OO {s:List ae} {r:ao} (hl:s.length≤1000000000000):Hf s r=some ((gH r s,()),()):=by
 rw[WW]
 exact Ih hl s [] rfl
theorem VV {α:Type} {lt:α→α→Bool} (hi : ∀ x,lt x x=false) (ht : ∀ x y z,lt x y=true→lt y z=true→lt x z=true) : ∀ {l m:List α},(l.Pairwise fun a b=>lt a b=true)→(m.Pairwise fun a b=>lt a b=true)→(∀ x,x∈l↔x∈m)→l=m
 | [],[],_,_,_=>rfl
 | [],y :: m,_,_,h=>by have:=(h y).2 (by simp); cases this
 | x :: l,[],_,_,h=>by have:=(h x).1 (by simp); cases this
 | x :: l,y :: m,hl,hm,h=>by
  rw[List.pairwise_cons] at hl hm
  have hxy:x=y:=by
   rcases List.mem_cons.1 ((h x).1 (by simp)) with e | hx
   ·exact e
   ·rcases List.mem_cons.1 ((h y).2 (by simp)) with e | hy
    ·exact e.symm
    ·have:=ht _ _ _ (hl.1 y hy) (hm.1 x hx)
     rw[hi] at this
     cases this
  subst hxy
  congr 1
  refine VV hi ht hl.2 hm.2 fun z=>⟨fun hz => ?_,fun hz => ?_⟩
  ·rcases List.mem_cons.1 ((h z).1 (List.mem_cons_of_mem _ hz)) with e | hz'
   ·subst e
    have:=hl.1 z hz
    rw[hi] at this
    cases this
   ·exact hz'
  ·rcases List.mem_cons.1 ((h z).2 (List.mem_cons_of_mem _ hz)) with e | hz'
   ·subst e
    have:=hm.1 z hz
    rw[hi] at this
    cases this
   ·exact hz'
theorem pP {a b:ao}:ck a b=true↔a.2.1 < b.2.1∨(a.2.1=b.2.1∧a.1 < b.1):=by
 unfold ck
 simp
theorem wE (a:ao):ck a a=false:=by
 rw[Bool.eq_false_iff]
 intro h
 have:=pP.1 h
 omega
theorem lq {a b c:ao} (h:ck a b=true) (k:ck b c=true):ck a c=true:=by
 have:=pP.1 h
 have:=pP.1 k
 rw[pP]
 omega
theorem YW {a b:ao} (h1:a.1=b.1) (h2:a.2.1=b.2.1):a=b:=Prod.ext h1 (Prod.ext h2 rfl)
theorem yJ (a b:ao):ck a b=true∨a=b∨ck b a=true:=by
 rw[pP,pP]
 by_cases h:a=b
 ·exact .inr (.inl h)
 ·by_cases h2:a.2.1=b.2.1
  ·have:a.1≠b.1:=fun e=>h (YW e h2)
   omega
  ·omega
theorem wF {a b:ao} (h:ck a b=true):a≠b:=by
 rintro rfl
 rw[wE] at h
 cases h
def jO (s:List ae):Prop:=s.Pairwise fun a b=>ck a.1 b.1=true
theorem Ru : ∀ {s:List ae} {o:Option ae},DD o s=true↔(∀ p,o=some p → ∀ c∈s,ck p.1 c.1=true)∧jO s ∧ ∀ c∈s,bS c.1=true∧fL c.2.1=true
 | [],o=>by simp[DD,jO]
 | c :: l,o=>by
  have ih:=Ru (s:=l) (o:=some c)
  simp only[DD,Bool.and_eq_true,ih]
  constructor
  ·rintro⟨⟨⟨h1,h2⟩,h3⟩,h4,h5,h6⟩
   refine⟨?_,List.pairwise_cons.2 ⟨fun d hd=>h4 c rfl d hd,h5⟩,?_⟩
   ·rintro p rfl d hd
    have h3:ck p.1 c.1=true:=h3
    rcases List.mem_cons.1 hd with rfl | hd
    ·exact h3
    ·exact lq h3 (h4 c rfl d hd)
   ·intro d hd
    rcases List.mem_cons.1 hd with rfl | hd
    ·exact⟨h1,h2⟩
    ·exact h6 d hd
  ·rintro⟨h1,h2,h3⟩
   have h2:=List.pairwise_cons.1 h2
   refine⟨⟨h3 c (by simp),?_⟩,?_,h2.2,fun d hd=>h3 d (List.mem_cons_of_mem _ hd)⟩
   ·cases o with
    | none=>rfl
    | some p=>exact h1 p rfl c (by simp)
   ·rintro p hp d hd
    cases hp
    exact h2.1 d hd
theorem ox {s:List ae}:bz s=true↔jO s∧(∀ c∈s,bS c.1=true∧fL c.2.1=true)∧s.length≤120:=by
 unfold bz
 rw[Bool.and_eq_true,Ru,decide_eq_true_eq]
 constructor
 ·rintro⟨⟨_,h1,h2⟩,h3⟩
  exact⟨h1,h2,h3⟩
 ·rintro⟨h1,h2,h3⟩
  exact⟨⟨(fun p hp=>by cases hp),h1,h2⟩,h3⟩
theorem DE {x:ByteArray}:fL x=true↔(hZ x).2=true∧x≠eS∧(hZ x).1=x:=by
 unfold fL
 simp[Bool.and_eq_true,and_assoc]
theorem VW (x:ByteArray):(hZ x).1.size≤200:=by
 by_cases h:x.size≤9223372036854775807
 ·exact(wC h).2.2
 ·unfold hZ
  rw[dif_neg h]
  decide
theorem BM {x:ByteArray} (h:fL x=true):x.size≤200:=by
 have:=VW x
 rw[(DE.1 h).2.2] at this
 exact this
def ja (r:ao) (s:List ae):List ae:=s.filter fun c => !decide (c.1=r)
def tW (r:ao) (x:ByteArray):List ae→List ae
 | []=>[(r,x,())]
 | c :: l=>if ck c.1 r=true then c :: tW r x l else(r,x,()) :: ja r (c :: l)
noncomputable def pl (s:List ae) (r:ao) (x:ByteArray):List ae:=if x=eS then ja r s else tW r x s
theorem Jp {r:ao} {s:List ae} {c:ae}:c∈ja r s↔c∈s∧c.1≠r:=by simp[ja]
theorem Rv {r:ao} {s:List ae} (h:jO s):jO (ja r s):=List.Pairwise.filter _ h
theorem YX (r:ao) (s:List ae):(ja r s).length≤s.length:=List.length_filter_le _ _
theorem Z1 {r:ao} {s:List ae} (h : ∀ c∈s,c.1≠r):ja r s=s:=by
 unfold ja
 rw[List.filter_eq_self]
 intro c hc
 simp[h c hc]
theorem yK {r:ao} {c:ae} {l:List ae} (h:c.1≠r):ja r (c :: l)=c :: ja r l:=by simp[ja,h]
theorem Ff {r:ao} {c:ae} {l:List ae} (h:c.1=r):ja r (c :: l)=ja r l:=by simp[ja,h]
theorem Gh {r:ao} {x:ByteArray} : ∀ s:List ae,(tW r x s).Perm (ja r s++[(r,x,())])
 | []=>by simp[tW,ja]
 | c :: l=>by
  unfold tW
  by_cases h:ck c.1 r=true
  ·rw[if_pos h,yK (wF h)]
   exact(Gh l).cons c
  ·rw[if_neg h]
   exact(List.perm_append_singleton _ _).symm
theorem Rx {r:ao} {x:ByteArray} {s:List ae} {c:ae}:c∈tW r x s↔(c∈s∧c.1≠r)∨c=(r,x,()):=by
 rw[(Gh s).mem_iff,List.mem_append,Jp,List.mem_singleton]
theorem Jq {r:ao} {x:ByteArray} : ∀ {s:List ae},jO s→jO (tW r x s)
 | [],_=>by simp[tW,jO]
 | c :: l,h=>by
  have h':=List.pairwise_cons.1 h
  unfold tW
  by_cases k:ck c.1 r=true
  ·rw[if_pos k]
   refine List.pairwise_cons.2 ⟨fun d hd => ?_,Jq h'.2⟩
   rcases Rx.1 hd with⟨hd,_⟩ | rfl
   ·exact h'.1 d hd
   ·exact k
  ·rw[if_neg k]
   refine List.pairwise_cons.2 ⟨fun d hd => ?_,Rv h⟩
   obtain⟨hd,hn⟩:=Jp.1 hd
   show ck r d.1=true
   rcases yJ c.1 r with e | e | e
   ·exact absurd e k
   ·rcases List.mem_cons.1 hd with rfl | hd
    ·exact absurd e hn
    ·rw[←e]
     exact h'.1 d hd
   ·rcases List.mem_cons.1 hd with rfl | hd
    ·exact e
    ·exact lq e (h'.1 d hd)
theorem YY {r:ao} {x:ByteArray} {s:List ae} (h:jO s):jO (pl s r x):=by
 unfold pl
 split
 ·exact Rv h
 ·exact Jq h
theorem YZ {r:ao} {x:ByteArray} {s:List ae} {c:ae}:c∈pl s r x↔(c∈s∧c.1≠r)∨(x≠eS∧c=(r,x,())):=by
 unfold pl
 by_cases h:x=eS
 ·rw[if_pos h,Jp]
  simp[h]
 ·rw[if_neg h,Rx]
  simp[h]
theorem OP {q:ao} : ∀ {s:List ae},(∀ c∈s,c.1≠q)→gH q s=eS
 | [],_=>rfl
 | c :: l,h=>by
  rw[gH,if_neg (h c (by simp))]
  exact OP fun d hd=>h d (List.mem_cons_of_mem _ hd)
theorem DF : ∀ {s:List ae} {c:ae},jO s→c∈s→gH c.1 s=c.2.1
 | d :: l,c,h,hc=>by
  have h':=List.pairwise_cons.1 h
  rw[gH]
  rcases List.mem_cons.1 hc with rfl | hc
  ·rw[if_pos rfl]
  ·rw[if_neg (wF (h'.1 c hc))]
   exact DF h'.2 hc
theorem XG {q:ao} {s:List ae} (h:jO s):(∃ c∈s,c.1=q∧c.2.1=gH q s)∨((∀ c∈s,c.1≠q)∧gH q s=eS):=by
 by_cases k : ∃ c∈s,c.1=q
 ·obtain⟨c,hc,rfl⟩:=k
  exact .inl ⟨c,hc,rfl,(DF h hc).symm⟩
 ·have k' : ∀ c∈s,c.1≠q:=fun c hc e=>k ⟨c,hc,e⟩
  exact .inr ⟨k',OP k'⟩
theorem gi {s:List ae} (h:bz s=true):jO s:=(ox.1 h).1
theorem bn {s:List ae} (h:bz s=true):s.length≤120:=(ox.1 h).2.2
theorem rk {s:List ae} (h:bz s=true) : ∀ c∈s,c.2.1.size≤200:=fun c hc=>BM ((ox.1 h).2.1 c hc).2
theorem Qj {s:List ae} {r:ao} {x:ByteArray} (h:bz s=true) (hr:bS r=true) (hx:x≠eS→fL x=true) (hl:(pl s r x).length≤120):bz (pl s r x)=true:=by
 rw[ox] at h ⊢
 refine⟨YY h.1,?_,hl⟩
 intro c hc
 rcases YZ.1 hc with⟨hc,_⟩ | ⟨hn,rfl⟩
 ·exact h.2.1 c hc
 ·exact⟨hr,hx hn⟩
noncomputable def OQ (x:ByteArray):Bool:=decide (x=eS) || fL x
end Go.Proofs.YteaahciglahehaaGreatDoor.Abs
