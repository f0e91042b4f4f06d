/- Plain laws: right sheets: what both sides ask is one thing. -/
import Derived.Test.YthbkdfcmjmmpgaaGreatDoorZM8
set_option linter.unusedVariables false
set_option linter.unusedSimpArgs false
set_option linter.unusedSectionVars false
open Bool renaming and_eq_true→ah_,and_true→fd_,eq_iff_iff→bw_,false_eq_true→aj_,not_true→bc_,true_and→bv_
open ByteArray renaming toList→ag_
open Go.Lib renaming decDigits→az_
open List renaming all_eq_true→ck_,drop_succ_cons→bz_,drop_zero→cu_,eq_nil_or_concat→gi_,getLast?_append→fb_,getLast?_singleton→es_,head?_cons→db_,length_cons→ak_
open Option renaming bind_some→ab_,some_or→gk_
open Option.some renaming injEq→bg_,inj→cb_
open _root_ renaming ByteArray→aa_,decide_eq_false→be_,decide_eq_true_eq→ai_,decide_eq_true→bd_,if_false→aw_,if_neg→ad_,if_pos→af_
namespace Go.Proofs.YthbkdfcmjmmpgaaGreatDoor.Abs
open Go
noncomputable def eK (x:aa_):aa_×Bool:=if h:x.size≤9223372036854775807 then(ba (AG h).choose,(AG h).choose_spec.choose) else(eS,false)
theorem mC {x:aa_} (h:x.size≤9223372036854775807):zT x=some (((eK x).1,(eK x).2,()),())∧dR x=some (((eK x).1,(eK x).2,()),())∧(eK x).1.size≤200:=by
 have hs:=(AG h).choose_spec.choose_spec
 unfold eK
 rw[dif_pos h]
 exact⟨hs.1,hs.2.1,by rw[aQ]; exact hs.2.2⟩
noncomputable def fO (x:aa_):Bool:=(eK x).2 && !decide (x=eS) && decide ((eK x).1=x)
theorem qA {x:aa_} (h:x.size≤9223372036854775807):pl x=some ((fO x,()),()):=by
 rw[Nw,(mC h).1]
 simp only[ab_,so]
 unfold fO
 cases (eK x).2 <;> by_cases hx:x=eS <;> simp[hx]
def bM (a b:ah):Bool:=decide (a.2.1 < b.2.1) || (decide (a.2.1=b.2.1) && decide (a.1 < b.1))
theorem EB (a b:ah):oI a b=some ((bM a b,()),()):=by
 rw[El]
 unfold bM
 by_cases h1:a.2.1 < b.2.1
 ·simp[h1]
 ·by_cases h2:a.2.1=b.2.1 <;> simp[h1,h2]
theorem HR (a b:ah) : ∃ k:Int,uQ a b=some ((k,()),())∧(k < 0↔bM a b=true):=by
 rw[GZ,CJ,CJ]
 simp only[ab_]
 rw[NO (by simp)]
 refine⟨_,rfl,?_⟩
 unfold bM
 by_cases h1:a.2.1 < b.2.1
 ·simp[qu,h1]
 ·by_cases h2:b.2.1 < a.2.1
  ·have h3 : ¬a.2.1=b.2.1:=by omega
   simp[qu,h1,h2,h3]
  ·have h3:a.2.1=b.2.1:=by omega
   by_cases h4:a.1 < b.1
   ·simp[qu,h1,h2,h3,h4]
   ·by_cases h5:b.1 < a.1
    ·simp[qu,h1,h2,h3,h4,h5]
    ·simp[qu,h1,h2,h3,h4,h5]
noncomputable def C5:Option ae→List ae→Bool
 | _,[]=>true
 | o,c :: l=>bT c.1 && fO c.2.1 && (match o with | none=>true | some p=>bM p.1 c.1) && C5 (some c) l
noncomputable def be (s:List ae):Bool:=C5 none s && decide (s.length≤120)
section
variable {s:List ae} (hs : ∀ c∈s,c.2.1.size≤9223372036854775807) (hl:s.length≤1000000000)
include hs hl
theorem Bk : ∀(ys pre:List ae),s=pre++ys→nU s s (s.length:Int) (pre.length:Int)=some ((C5 pre.getLast? ys && decide (s.length≤120),()),())
 | [],pre,h=>by
  rw[yH,aD (bj h)]
  simp only[C5,bv_]
  congr 3
  rw[bw_,ai_,ai_]
  omega
 | y :: ys,pre,h=>by
  have hy:=hs y (by rw[h]; simp)
  have ih:=Bk ys (pre++[y]) (aB h)
  rw[fb_] at ih
  simp only[es_,Option.or_some,gk_] at ih
  rw[yH,aI (bA h),bD h,sF]
  simp only[ab_,C5]
  cases hr:bT y.1 with
  | false=>simp
  | true =>
   simp only[bc_,aj_,aw_,bv_]
   rcases gi_ pre with hp | ⟨q,z,hp⟩
   ·subst hp
    rw[aD (by simp),qA hy]
    simp only[ab_,List.getLast?_nil,fd_]
    cases fO y.2.1 with
    | false=>simp
    | true =>
     simp only[bc_,aj_,aw_,bv_]
     rw[aK (pre:=[]) h (by omega)]
     exact ih
   ·rw[List.concat_eq_append] at hp
    subst hp
    have hz:s=q++z :: (y :: ys):=by rw[h]; simp
    have hql:((q++[z]).length:Int) - 1=(q.length:Int):=by simp
    have hqs:q.length < s.length:=by rw[hz]; simp
    rw[aI (by simp),hql,wr (by omega) (by omega),bD hz]
    obtain⟨k,k1,k2⟩:=HR z.1 y.1
    rw[k1]
    simp only[ab_,fb_,es_,gk_]
    by_cases hk:k < 0
    ·rw[aD (by omega),qA hy,k2.1 hk]
     simp only[ab_,fd_]
     cases fO y.2.1 with
     | false=>simp
     | true =>
      simp only[bc_,aj_,aw_,bv_]
      rw[aK h (by omega)]
      exact ih
    ·have:bM z.1 y.1=false:=by
      rw[Bool.eq_false_iff]
      exact fun e=>hk (k2.2 e)
     rw[aI (by omega),this]
     simp
theorem sc:oJ s=some ((be s,()),()):=by
 rw[P8]
 exact Bk hs hl s [] rfl
end
theorem aa6 {l:ap} (h:l.all dw=true):l.all br=true:=by
 rw[ck_] at h ⊢
 intro c hc
 unfold br
 rw[h c hc]
 simp
theorem ZU (u:Nat):(az_ u).all br=true:=aa6 (IY (vn u))
section
variable {f:List ab} {n:Nat} {k L:Int}
end
section
variable {f:List ab} (hf:f.length≤60)
include hf
end
def vy (c:UInt8):Bool:=decide (32≤c.toNat) && decide (c.toNat≤126)
theorem OX {l:ap}:plain (ba l)=l.all vy:=by
 unfold plain
 rw[VI,List.all_map]
 congr 1
 funext c
 simp only[Function.comp,sG,vy]
 rw[bw_]
 simp only[ai_,ah_]
 omega
theorem abI {w:ap} (h:w.all br=true):w.all vy=true:=by
 rw[ck_] at h ⊢
 intro c hc
 exact CO (p:=fun c=>br c=true→vy c=true) (by decide +kernel) c (h c hc)
def fT (f:List ab):ap:=dp f f.length ((f.length:Int) - 1) 1
noncomputable def jb (x:aa_):List ab×Bool:=if h:x.size≤9223372036854775807 then((L1 h).choose,(L1 h).choose_spec.choose) else([],false)
theorem sM {x:aa_} (h:x.size≤9223372036854775807):kb x=some (((jb x).1,(jb x).2,()),())∧kg x=some (((jb x).1,(jb x).2,()),())∧((jb x).2=true→fg (jb x).1=true)∧((jb x).2=false→(jb x).1=[]):=by
 unfold jb
 rw[dif_pos h]
 exact(L1 h).choose_spec.choose_spec
def k7 (f:List ab):ap:=if fg f=true∧(fT f).length≤200 then fT f else []
theorem sN {f:List ab} (h:fg f=true):f.length≤60∧(∀ x∈f,x.2.2.1.2.2.1.size≤9223372036854775807) ∧ ∀ x∈f,x.2.2.2.2.2.1.length≤10000000:=by
 have hs:dz f=true:=by
  unfold dz
  rw[ck_]
  intro y hy
  obtain⟨i,hi⟩:=List.getElem?_of_mem hy
  exact(kV h i y hi).1
 have ho':=h
 unfold fg at ho'
 rw[ah_] at ho'
 have:=bC.1 ho'.1
 exact⟨by omega,OF (vx hs),OG (vx hs)⟩
theorem Yi {f:List ab} (hl:f.length≤10000000) (hs : ∀ x∈f,x.2.2.1.2.2.1.size≤9223372036854775807) (hk : ∀ x∈f,x.2.2.2.2.2.1.length≤10000000):qe f=some ((ba (k7 f),()),())∧p9 f=some ((ba (k7 f),()),()):=by
 rw[wo,wm,ou hl hs hk,lr hl hs hk]
 simp only[ab_]
 unfold k7
 cases ho:fg f with
 | false=>exact⟨rfl,rfl⟩
 | true =>
  simp only[bc_,aj_,aw_]
  have ho':=ho
  unfold fg at ho'
  rw[ah_] at ho'
  have hlen:=bC.1 ho'.1
  have ht:=ho'.2
  unfold vl at ht
  cases hc:fG f f.length ((f.length:Int) - 1) with
  | none=>rw[hc] at ht; cases ht
  | some p =>
   obtain⟨h1,h2⟩:=I9 (by omega) f.length ((f.length:Int) - 1) p.1 p.2 hc
   rw[wr (by omega) (by omega),(h1 1).1,(h1 0).2,HL]
   simp only[ab_,aQ]
   by_cases hb:(fT f).length≤200
   ·have hb':(dp f f.length ((f.length:Int) - 1) 1).length≤200:=hb
    rw[aD (by omega),af_ (by simp[hb])]
    exact⟨rfl,rfl⟩
   ·have hb' : ¬(dp f f.length ((f.length:Int) - 1) 1).length≤200:=hb
    rw[aI (by omega),ad_ (fun h=>hb h.2)]
    exact⟨rfl,rfl⟩
theorem Wi (f:List ab):(k7 f).length≤200:=by
 unfold k7
 split
 ·rename_i h
  exact h.2
 ·exact Nat.zero_le _
noncomputable def oX (w:ap):ap×Bool :=
 if w=[] then([],true)
 else if(w.all vy && decide (w.length≤200))=false then([],false)
 else if w.head? = some 61 then(let r:=jb (ba (w.drop 1)); if r.2=true∧k7 r.1≠[]∧(k7 r.1).length < 200 then(61 :: k7 r.1,true) else([],false))
 else if gl w=true then(lb (cY (kZ w)),true)
 else if(bJ w).2=true then(w,true)
 else if w.length=200 then([],false) else(39 :: w,true)
theorem ab7 {w:ap} (hx:w.length≤9223372036854775807):dR (ba w)=some ((ba (oX w).1,(oX w).2,()),()):=by
 rw[xn,nZ (by rw[aQ]; exact hx)]
 simp only[ab_]
 have e0 : ∀ x:ap,(ag_ (ba x) == ag_ (⟨#[]⟩:aa_))=decide (x=[]):=fun x=>dG (b:=[])
 have e1:(plain (ba w) && decide (((ba w).size:Int)≤200))=(w.all vy && decide (w.length≤200)):=by
  rw[OX,aQ]
  congr 1
  rw[bw_,ai_,ai_]
  omega
 rw[e0,e1]
 unfold oX
 by_cases hw:w=[]
 ·subst hw
  rfl
 ·rw[ad_ hw,be_ hw]
  cases hp:(w.all vy && decide (w.length≤200)) with
  | false=>rfl
  | true =>
   rw[ad_ (by decide)]
   have hp':=hp
   rw[ah_,ai_] at hp'
   have hl:=hp'.2
   simp only[bc_,aj_,aw_]
   cases w with
   | nil=>exact absurd rfl hw
   | cons c l =>
    rw[qv,Fw c 61 (n:=61) rfl]
    by_cases hc:c=61
    ·subst hc
     have hll:l.length≤200:=by rw[ak_] at hl; omega
     simp only[db_,decide_true,if_true,bz_,cu_]
     rw[show(1:Int)=((1:Nat):Int) from rfl,fW (by simp)]
     simp only[bz_,cu_]
     obtain⟨r1,_,r3,r4⟩:=sM (x:=ba l) (by rw[aQ]; omega)
     rw[r1]
     simp only[ab_]
     have hsm:(jb (ba l)).1.length≤10000000∧(∀ x∈(jb (ba l)).1,x.2.2.1.2.2.1.size≤9223372036854775807) ∧ ∀ x∈(jb (ba l)).1,x.2.2.2.2.2.1.length≤10000000:=by
      cases hb:(jb (ba l)).2 with
      | false=>rw[r4 hb]; simp
      | true =>
       have:=sN (r3 hb)
       exact⟨by omega,this.2⟩
     have hfl:=Wi (jb (ba l)).1
     rw[(Yi hsm.1 hsm.2.1 hsm.2.2).2]
     simp only[ab_]
     rw[e0,aQ,show(⟨#[61]⟩:aa_)=ba [61] from rfl,bN (by simp only[List.length_singleton]; omega),wr (by omega) (by omega)]
     cases hb:(jb (ba l)).2 with
     | false=>simp
     | true =>
      by_cases h1:k7 (jb (ba l)).1=[]
      ·simp[h1]
      ·by_cases h2:(k7 (jb (ba l)).1).length < 200
       ·rw[aD h1,aD (by omega)]
        simp[h1,h2]
       ·rw[aD h1,aI (by omega)]
        simp[h1,h2]
    ·have hnc : ¬(c :: l).head? = some (61:UInt8):=by simpa using hc
     rw[ad_ hnc]
     simp only[hc,decide_false,aj_,aw_]
     generalize hwd:(c :: l:ap)=w at *
     have hsz:(ba w).size=w.length:=aQ w
     obtain⟨v,n1,n2⟩:=C4 hw (by omega)
     rw[n1,oz (by omega)]
     simp only[ab_]
     cases ho:gl w with
     | true =>
      have hrg:=HQ ho
      have hok:aA (vN (kZ w))=true:=by
       rw[Yg]
       exact bC.2 hrg
      rw[n2 ho]
      simp only[if_true]
      rw[eP (ca hok),af_ hok]
      simp only[ab_,ec]
      rfl
     | false =>
      simp only[aj_,aw_]
      cases hr:(bJ w).2 with
      | true =>
       obtain⟨k1,k2⟩:=oT hr
       simp only[bc_,aj_,aw_]
       rw[eP (ca k1),af_ k1,k2]
       simp only[ab_]
       rw[aD (by rw[hsz]; omega)]
       rfl
      | false =>
       simp only[Bool.not_false,aj_,aw_,if_true]
       have hov:aA (2,0,ba w,())=true:=by
        unfold aA
        rw[af_ rfl]
        simp only[decide_true,bv_]
        rw[e1]
        exact hp
       have htx:bO (2,0,ba w,())=ba (39 :: w):=by
        show(⟨#[39]⟩:aa_)++ba w=_
        rw[show(⟨#[39]⟩:aa_)=ba [39] from rfl,lu]
        rfl
       rw[eP (ca hov),af_ hov,htx]
       simp only[ab_,aQ,ak_]
       by_cases h2:w.length=200
       ·rw[aI (by omega),af_ h2]
        rfl
       ·rw[aD (by omega),ad_ h2]
        rfl
theorem Jc {w:ap} (hx:w.length≤9223372036854775807):eK (ba w)=(ba (oX w).1,(oX w).2):=by
 have h:=(mC (x:=ba w) (by rw[aQ]; exact hx)).2.1
 rw[ab7 hx] at h
 have:=cb_ h
 exact Prod.ext (congrArg (fun z=>z.1.1) this).symm (congrArg (fun z=>z.1.2.1) this).symm
theorem OY {n:Int} (h0 : -1000000000000000≤n) (h1:n≤1000000000000000):gl (lb (cY n))=true∧kZ (lb (cY n))=n∧(lb (cY n)).all vy=true∧(lb (cY n)).head? ≠ some 61∧(lb (cY n)).length≤20∧lb (cY n)≠[]:=by
 have hsz:=qr (n:=n) (by omega) (by omega)
 have hd : ∀ u:Nat,u≤1000000000000000→(az_ u).all dw=true∧bL 0 (az_ u)=u∧az_ u≠[]∧(az_ u).head? ≠ some 45∧(az_ u).head? ≠ some 61∧(az_ u).all vy=true:=by
  intro u hu
  have ha:=IY (vn u)
  refine⟨ha,rl u,C1.1,C1.2.2.2.1,?_,abI (ZU u)⟩
  intro h
  cases hdd:az_ u with
  | nil=>rw[hdd] at h; cases h
  | cons c t =>
   rw[hdd] at h ha
   simp only[db_,bg_] at h
   subst h
   simp[dw] at ha
 by_cases hn:n < 0
 ·obtain⟨d1,d2,d3,d4,d5,d6⟩:=hd (-n).toNat (by omega)
  have e:lb (cY n)=45 :: az_ (-n).toNat:=by rw[wP hn,dy]
  rw[←iA,e] at hsz
  rw[e]
  have hm:ja (45 :: az_ (-n).toNat)=az_ (-n).toNat:=rfl
  have hg:OU (45 :: az_ (-n).toNat)=true:=rfl
  refine⟨?_,?_,?_,by simp,hsz,by simp⟩
  ·unfold gl jH
   rw[hm,d1,d2,bd_ d3,bd_ (by omega)]
   rfl
  ·unfold kZ rx
   rw[hm,hg,d2,af_ rfl]
   omega
  ·rw[List.all_cons,d6]
   rfl
 ·obtain⟨d1,d2,d3,d4,d5,d6⟩:=hd n.toNat (by omega)
  have e:lb (cY n)=az_ n.toNat:=by
   rw[show cY n=cY (n.toNat:Int) by rw[show(n.toNat:Int)=n by omega],oS,dy]
  rw[←iA,e] at hsz
  rw[e]
  have hm:ja (az_ n.toNat)=az_ n.toNat:=ad_ d4
  have hg:OU (az_ n.toNat)=false:=be_ d4
  refine⟨?_,?_,d6,d5,hsz,d3⟩
  ·unfold gl jH
   rw[hm,d1,d2,bd_ d3,bd_ (by omega)]
   rfl
  ·unfold kZ rx
   rw[hm,hg,d2,ad_ (by decide)]
   omega
theorem Jd {w:ap} (hw:w≠[]) (hp:(w.all vy && decide (w.length≤200))=true):oX w=if w.head? = some 61 then(let r:=jb (ba (w.drop 1)); if r.2=true∧k7 r.1≠[]∧(k7 r.1).length < 200 then(61 :: k7 r.1,true) else([],false)) else if gl w=true then(lb (cY (kZ w)),true) else if(bJ w).2=true then(w,true) else if w.length=200 then([],false) else(39 :: w,true):=by
 unfold oX
 rw[ad_ hw,hp,ad_ (by decide)]
structure Mov (g:ab→ab):Prop where
 ok : ∀ x,dF x=true→dF (g x)=true
 kids : ∀ x,dF x=true→(g x).2.2.2.2.2.1=x.2.2.2.2.2.1
 six : ∀ x,dF x=true→((g x).1=6↔x.1=6)
 three : ∀ x,(g x).1=3→x.1=3
section
variable {g:ab→ab} (M:Mov g) {f:List ab}
include M
end
def ab8 (row many:Int) (closed:Bool) (other n:Int):Int:=if n < row then n else if closed=false then n+many else if n < row+many then other else n - many
def rowP (row many:Int) (closed:Bool) (other:Int) (p:cl):cl:=((p.1.1,ab8 row many closed other p.1.2.1,()),p.2.1,p.2.2.1,())
noncomputable def cZ (x:aa_):Option (List ab):=if(lb x).head? = some 61∧(jb (ba ((lb x).drop 1))).2=true then some (jb (ba ((lb x).drop 1))).1 else none
theorem k8 {x:aa_} {f:List ab} (h:cZ x=some f) (hx:x.size≤9223372036854775807):fg f=true:=by
 unfold cZ at h
 split at h
 ·rename_i k
  cases h
  have hl:(ba ((lb x).drop 1)).size≤9223372036854775807:=by
   rw[aQ,List.length_drop,iA]
   omega
  exact(sM hl).2.2.1 k.2
 ·cases h
section
variable {f:List ab} (hf:fg f=true)
include hf
end
section
variable {f:List ab} (hf:fg f=true)
include hf
end
theorem T5 {x:aa_}:fO x=((eK x).2 && !decide (x=eS) && decide ((eK x).1=x)):=rfl
section
variable {s:List ae} (hs : ∀ c∈s,c.2.1.size≤9223372036854775807) (hl:s.length≤1000000000000)
include hs hl
theorem Bl : ∀(ys pre:List ae),s=pre++ys→nT s (pre.length:Int)=some ((C5 pre.getLast? ys,()),())
 | [],pre,h=>by
  rw[yF,aD (bj h)]
  simp only[C5]
 | y :: ys,pre,h=>by
  have hy:=hs y (by rw[h]; simp)
  have ih:=Bl ys (pre++[y]) (aB h)
  rw[fb_] at ih
  simp only[es_,Option.or_some,gk_] at ih
  rw[yF,aI (bA h),bD h,(mC hy).2.1]
  simp only[ab_]
  rw[bD h,kE]
  simp only[ab_,C5,bD h,so,T5]
  cases hr:bT y.1 with
  | false=>simp
  | true =>
   cases hi:(eK y.2.1).2 with
   | false=>simp
   | true =>
    by_cases he:y.2.1=eS
    ·simp[he]
    ·by_cases hq:(eK y.2.1).1=y.2.1
     ·rcases gi_ pre with hp | ⟨q,z,hp⟩
      ·subst hp
       rw[aK (pre:=[]) h (by omega)]
       simp[he,hq]
       exact ih
      ·rw[List.concat_eq_append] at hp
       subst hp
       have hz:s=q++z :: (y :: ys):=by rw[h]; simp
       have hql:((q++[z]).length:Int) - 1=(q.length:Int):=by simp
       have hqs:q.length < s.length:=by rw[hz]; simp
       rw[hql,wr (by omega) (by omega),bD hz,EB,aK h (by omega)]
       simp only[ab_,fb_,es_,gk_]
       rw[ih]
       cases ha:bM z.1 y.1 <;> simp[he,hq]
     ·simp[he,hq]
theorem EC:zQ s=some ((be s,()),()):=by
 rw[P1]
 by_cases h:s.length≤120
 ·rw[aD (by simp; omega)]
  have:=Bl hs hl s [] rfl
  simp only[List.length_nil,Int.ofNat_zero,List.getLast?_nil] at this
  rw[this]
  simp[be,h]
 ·rw[aI (by simp; omega)]
  simp[be,h]
end
theorem im {a b:ah}:(bk ak a b=true)=(a=b):=propext (km rfl)
noncomputable def cN (r:ah):List ae→aa_
 | []=>eS
 | c :: cs=>if c.1=r then c.2.1 else cN r cs
theorem zh {s:List ae} {r:ah} (hl:s.length≤1000000000000) : ∀(ys pre:List ae),s=pre++ys→qm s (s.length:Int) (pre.length:Int) r.1 r.2.1=some ((cN r ys,()),())
 | [],pre,h=>by
  rw[wz,aD (bj h)]
  rfl
 | y :: ys,pre,h=>by
  have ih:=zh (r:=r) hl ys (pre++[y]) (aB h)
  rw[wz,aI (bA h),bD h,aK h (by omega),ih]
  show(if bk ak y.1 r=true then _ else _)=_
  by_cases e:y.1=r
  ·rw[af_ (by rw[im]; exact e),cN,af_ e]
  ·rw[ad_ (by rw[im]; exact e),cN,ad_ e]
theorem C6 {s:List ae} {r:ah} (hl:s.length≤1000000000000):wg s r=some ((cN r s,()),()):=by
 rw[NJ]
 exact zh hl s [] rfl
theorem HS {s:List ae} {r:ah} (hl:s.length≤1000000000000) : ∀(ys pre:List ae),s=pre++ys→zY s (pre.length:Int) r.1 r.2.1=some ((cN r ys,()),())
 | [],pre,h=>by
  rw[Ep,aD (bj h)]
  rfl
 | y :: ys,pre,h=>by
  have ih:=HS (r:=r) hl ys (pre++[y]) (aB h)
  rw[Ep,aI (bA h),bD h,aK h (by omega),ih]
  show(if bk ak y.1 r=true then _ else _)=_
  by_cases e:y.1=r
  ·rw[af_ (by rw[im]; exact e),bD h,cN,af_ e]
  ·rw[ad_ (by rw[im]; exact e),cN,ad_ e]
theorem OZ {s:List ae} {r:ah} (hl:s.length≤1000000000000):GJ s r=some ((cN r s,()),()):=by
 rw[XI]
 exact HS hl s [] rfl
end Go.Proofs.YthbkdfcmjmmpgaaGreatDoor.Abs
