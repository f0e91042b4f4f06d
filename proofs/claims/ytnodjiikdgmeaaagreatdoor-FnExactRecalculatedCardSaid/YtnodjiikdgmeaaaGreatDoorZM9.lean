/- Plain laws: what InputOf gives is a source, as it stands. -/
import Derived.Test.YtnodjiikdgmeaaaGreatDoorZM8
import Derived.Test.YtnodjiikdgmeaaaGreatDoorZM5
set_option linter.unusedVariables false
set_option linter.unusedSimpArgs false
set_option linter.unusedSectionVars false
namespace Go.Proofs.YtnodjiikdgmeaaaGreatDoor.Abs
open Go
noncomputable def xP (x:ByteArray):List aa×Bool:=if h:x.size≤9223372036854775807 then((Je h).choose,(Je h).choose_spec.choose) else([],false)
theorem Bq {x:ByteArray} (h:x.size≤9223372036854775807):ll x=some (((xP x).1,(xP x).2,()),())∧lr x=some (((xP x).1,(xP x).2,()),())∧((xP x).2=true→fV (xP x).1=true)∧((xP x).2=false→(xP x).1=[]):=by
 unfold xP
 rw[dif_pos h]
 exact(Je h).choose_spec.choose_spec
theorem Br {f:List aa} (h:fV f=true):f.length≤60∧(∀ x∈f,x.2.2.1.2.2.1.size≤9223372036854775807) ∧ ∀ x∈f,x.2.2.2.2.2.1.length≤10000000:=by
 have hs:de f=true:=by
  unfold de
  rw[List.all_eq_true]
  intro y hy
  obtain⟨i,hi⟩:=List.getElem?_of_mem hy
  exact(mm h i y hi).1
 have ho':=h
 unfold fV at ho'
 rw[Bool.and_eq_true] at ho'
 have:=bA.1 ho'.1
 exact⟨by omega,Lu (uv hs),Lv (uv hs)⟩
structure WD (g:aa→aa):Prop where
 ok : ∀ x,du x=true→du (g x)=true
 kids : ∀ x,du x=true→(g x).2.2.2.2.2.1=x.2.2.2.2.2.1
 six : ∀ x,du x=true→((g x).1=6↔x.1=6)
 three : ∀ x,(g x).1=3→x.1=3
section
variable {g:aa→aa} (M:WD g) {f:List aa}
include M
end
def WA (row many:Int) (closed:Bool) (other n:Int):Int:=if n < row then n else if closed=false then n+many else if n < row+many then other else n - many
def rowP (row many:Int) (closed:Bool) (other:Int) (p:bS):bS:=((p.1.1,WA row many closed other p.1.2.1,()),p.2.1,p.2.2.1,())
noncomputable def df (x:ByteArray):Option (List aa):=if(lb x).head? = some 61∧(xP (ba ((lb x).drop 1))).2=true then some (xP (ba ((lb x).drop 1))).1 else none
theorem lN {x:ByteArray} {f:List aa} (h:df x=some f) (hx:x.size≤9223372036854775807):fV f=true:=by
 unfold df at h
 split at h
 ·rename_i k
  cases h
  have hl:(ba ((lb x).drop 1)).size≤9223372036854775807:=by
   rw[aN,List.length_drop,qi]
   omega
  exact(Bq hl).2.2.1 k.2
 ·cases h
section
variable {f:List aa} (hf:fV f=true)
include hf
end
section
variable {f:List aa} (hf:fV f=true)
include hf
end
theorem P3 {x:ByteArray}:pC x=((lM x).2 && !decide (x=eS) && decide ((lM x).1=x)):=rfl
section
variable {s:List aj} (hs : ∀ c∈s,c.2.1.size≤9223372036854775807) (hl:s.length≤1000000000000)
include hs hl
theorem zP : ∀(ys pre:List aj),s=pre++ys→mR s (pre.length:Int)=some ((Bp pre.getLast? ys,()),())
 | [],pre,h=>by
  rw[xr,aw (bi h)]
  simp only[Bp]
 | y :: ys,pre,h=>by
  have hy:=hs y (by rw[h]; simp)
  have ih:=zP ys (pre++[y]) (av h)
  rw[List.getLast?_append] at ih
  simp only[List.getLast?_singleton,Option.or_some,Option.some_or] at ih
  rw[xr,az (bq h),bk h,(LJ hy).2.1]
  simp only[Option.bind_some]
  rw[bk h,n6]
  simp only[Option.bind_some,Bp,bk h,Ct,P3]
  cases hr:ca y.1 with
  | false=>simp
  | true =>
   cases hi:(lM y.2.1).2 with
   | false=>simp
   | true =>
    by_cases he:y.2.1=eS
    ·simp[he]
    ·by_cases hq:(lM y.2.1).1=y.2.1
     ·rcases List.eq_nil_or_concat pre with hp | ⟨q,z,hp⟩
      ·subst hp
       rw[aL (pre:=[]) h (by omega)]
       simp[he,hq]
       exact ih
      ·rw[List.concat_eq_append] at hp
       subst hp
       have hz:s=q++z :: (y :: ys):=by rw[h]; simp
       have hql:((q++[z]).length:Int) - 1=(q.length:Int):=by simp
       have hqs:q.length < s.length:=by rw[hz]; simp
       rw[hql,wr (by omega) (by omega),bk hz,MX,aL h (by omega)]
       simp only[Option.bind_some,List.getLast?_append,List.getLast?_singleton,Option.some_or]
       rw[ih]
       cases ha:cU z.1 y.1 <;> simp[he,hq]
     ·simp[he,hq]
theorem CW:yt s=some ((bQ s,()),()):=by
 rw[Mw]
 by_cases h:s.length≤120
 ·rw[aw (by simp; omega)]
  have:=zP hs hl s [] rfl
  simp only[List.length_nil,Int.ofNat_zero,List.getLast?_nil] at this
  rw[this]
  simp[bQ,h]
 ·rw[az (by simp; omega)]
  simp[bQ,h]
end
theorem Bs {a b:al}:(bN ao a b=true)=(a=b):=propext (qg rfl)
noncomputable def jj (r:al):List aj→ByteArray
 | []=>eS
 | c :: cs=>if c.1=r then c.2.1 else jj r cs
theorem FV {s:List aj} {r:al} (hl:s.length≤1000000000000) : ∀(ys pre:List aj),s=pre++ys→yE s (pre.length:Int) r.1 r.2.1=some ((jj r ys,()),())
 | [],pre,h=>by
  rw[CM,aw (bi h)]
  rfl
 | y :: ys,pre,h=>by
  have ih:=FV (r:=r) hl ys (pre++[y]) (av h)
  rw[CM,az (bq h),bk h,aL h (by omega),ih]
  show(if bN ao y.1 r=true then _ else _)=_
  by_cases e:y.1=r
  ·rw[if_pos (by rw[Bs]; exact e),bk h,jj,if_pos e]
  ·rw[if_neg (by rw[Bs]; exact e),jj,if_neg e]
theorem LK {s:List aj} {r:al} (hl:s.length≤1000000000000):EY s r=some ((jj r s,()),()):=by
 rw[Te]
 exact FV hl s [] rfl
theorem Sg {α:Type} {lt:α→α→Bool} (hi : ∀ x,lt x x=false) (ht : ∀ x y z,lt x y=true→lt y z=true→lt x z=true) : ∀ {l m:List α},(l.Pairwise fun a b=>lt a b=true)→(m.Pairwise fun a b=>lt a b=true)→(∀ x,x∈l↔x∈m)→l=m
 | [],[],_,_,_=>rfl
 | [],y :: m,_,_,h=>by have:=(h y).2 (by simp); cases this
 | x :: l,[],_,_,h=>by have:=(h x).1 (by simp); cases this
 | x :: l,y :: m,hl,hm,h=>by
  rw[List.pairwise_cons] at hl hm
  have hxy:x=y:=by
   rcases List.mem_cons.1 ((h x).1 (by simp)) with e | hx
   ·exact e
   ·rcases List.mem_cons.1 ((h y).2 (by simp)) with e | hy
    ·exact e.symm
    ·have:=ht _ _ _ (hl.1 y hy) (hm.1 x hx)
     rw[hi] at this
     cases this
  subst hxy
  congr 1
  refine Sg hi ht hl.2 hm.2 fun z=>⟨fun hz => ?_,fun hz => ?_⟩
  ·rcases List.mem_cons.1 ((h z).1 (List.mem_cons_of_mem _ hz)) with e | hz'
   ·subst e
    have:=hl.1 z hz
    rw[hi] at this
    cases this
   ·exact hz'
  ·rcases List.mem_cons.1 ((h z).2 (List.mem_cons_of_mem _ hz)) with e | hz'
   ·subst e
    have:=hm.1 z hz
    rw[hi] at this
    cases this
   ·exact hz'
theorem ob {a b:al}:cU a b=true↔a.2.1 < b.2.1∨(a.2.1=b.2.1∧a.1 < b.1):=by
 unfold cU
 simp
theorem Bt (a:al):cU a a=false:=by
 rw[Bool.eq_false_iff]
 intro h
 have:=ob.1 h
 omega
theorem wi {a b c:al} (h:cU a b=true) (k:cU b c=true):cU a c=true:=by
 have:=ob.1 h
 have:=ob.1 k
 rw[ob]
 omega
theorem Vb {a b:al} (h1:a.1=b.1) (h2:a.2.1=b.2.1):a=b:=Prod.ext h1 (Prod.ext h2 rfl)
theorem MY (a b:al):cU a b=true∨a=b∨cU b a=true:=by
 rw[ob,ob]
 by_cases h:a=b
 ·exact .inr (.inl h)
 ·by_cases h2:a.2.1=b.2.1
  ·have:a.1≠b.1:=fun e=>h (Vb e h2)
   omega
  ·omega
theorem DZ {a b:al} (h:cU a b=true):a≠b:=by
 rintro rfl
 rw[Bt] at h
 cases h
def rZ (s:List aj):Prop:=s.Pairwise fun a b=>cU a.1 b.1=true
theorem Ob : ∀ {s:List aj} {o:Option aj},Bp o s=true↔(∀ p,o=some p → ∀ c∈s,cU p.1 c.1=true)∧rZ s ∧ ∀ c∈s,ca c.1=true∧pC c.2.1=true
 | [],o=>by simp[Bp,rZ]
 | c :: l,o=>by
  have ih:=Ob (s:=l) (o:=some c)
  simp only[Bp,Bool.and_eq_true,ih]
  constructor
  ·rintro⟨⟨⟨h1,h2⟩,h3⟩,h4,h5,h6⟩
   refine⟨?_,List.pairwise_cons.2 ⟨fun d hd=>h4 c rfl d hd,h5⟩,?_⟩
   ·rintro p rfl d hd
    have h3:cU p.1 c.1=true:=h3
    rcases List.mem_cons.1 hd with rfl | hd
    ·exact h3
    ·exact wi h3 (h4 c rfl d hd)
   ·intro d hd
    rcases List.mem_cons.1 hd with rfl | hd
    ·exact⟨h1,h2⟩
    ·exact h6 d hd
  ·rintro⟨h1,h2,h3⟩
   have h2:=List.pairwise_cons.1 h2
   refine⟨⟨h3 c (by simp),?_⟩,?_,h2.2,fun d hd=>h3 d (List.mem_cons_of_mem _ hd)⟩
   ·cases o with
    | none=>rfl
    | some p=>exact h1 p rfl c (by simp)
   ·rintro p hp d hd
    cases hp
    exact h2.1 d hd
theorem qY {s:List aj}:bQ s=true↔rZ s∧(∀ c∈s,ca c.1=true∧pC c.2.1=true)∧s.length≤120:=by
 unfold bQ
 rw[Bool.and_eq_true,Ob,decide_eq_true_eq]
 constructor
 ·rintro⟨⟨_,h1,h2⟩,h3⟩
  exact⟨h1,h2,h3⟩
 ·rintro⟨h1,h2,h3⟩
  exact⟨⟨(fun p hp=>by cases hp),h1,h2⟩,h3⟩
theorem Si {x:ByteArray}:pC x=true↔(lM x).2=true∧x≠eS∧(lM x).1=x:=by
 unfold pC
 simp[Bool.and_eq_true,and_assoc]
theorem Sj (x:ByteArray):(lM x).1.size≤200:=by
 by_cases h:x.size≤9223372036854775807
 ·exact(LJ h).2.2
 ·unfold lM
  rw[dif_neg h]
  decide
theorem P4 {x:ByteArray} (h:pC x=true):x.size≤200:=by
 have:=Sj x
 rw[(Si.1 h).2.2] at this
 exact this
theorem LL {q:al} : ∀ {s:List aj},(∀ c∈s,c.1≠q)→jj q s=eS
 | [],_=>rfl
 | c :: l,h=>by
  rw[jj,if_neg (h c (by simp))]
  exact LL fun d hd=>h d (List.mem_cons_of_mem _ hd)
theorem Bu : ∀ {s:List aj} {c:aj},rZ s→c∈s→jj c.1 s=c.2.1
 | d :: l,c,h,hc=>by
  have h':=List.pairwise_cons.1 h
  rw[jj]
  rcases List.mem_cons.1 hc with rfl | hc
  ·rw[if_pos rfl]
  ·rw[if_neg (DZ (h'.1 c hc))]
   exact Bu h'.2 hc
theorem T0 {q:al} {s:List aj} (h:rZ s):(∃ c∈s,c.1=q∧c.2.1=jj q s)∨((∀ c∈s,c.1≠q)∧jj q s=eS):=by
 by_cases k : ∃ c∈s,c.1=q
 ·obtain⟨c,hc,rfl⟩:=k
  exact .inl ⟨c,hc,rfl,(Bu h hc).symm⟩
 ·have k' : ∀ c∈s,c.1≠q:=fun c hc e=>k ⟨c,hc,e⟩
  exact .inr ⟨k',LL k'⟩
theorem eQ {s:List aj} (h:bQ s=true):rZ s:=(qY.1 h).1
theorem bd {s:List aj} (h:bQ s=true):s.length≤120:=(qY.1 h).2.2
theorem pD {s:List aj} (h:bQ s=true) : ∀ c∈s,c.2.1.size≤200:=fun c hc=>P4 ((qY.1 h).2.1 c hc).2
section
variable {α R:Type}
def r5 (p:α→Bool):List α→Nat→Int
 | [],_ => -1
 | c :: l,n=>if p c=true then(n:Int) else r5 p l (n+1)
theorem zo {p:α→Bool} {s:List α} {d:α} {P:Int→Option R} {F:Int→Option R} (hl:s.length≤1000000000000)
  (hP : ∀ j,P j=if decide (j < (s.length:Int))=true then ix s j d fun y=>if p y=true then F j else P (IntKind.i64.wrap (j+1)) else F (-1)) : ∀(ys pre:List α),s=pre++ys→P (pre.length:Int)=F (r5 p ys pre.length)
 | [],pre,h=>by
  rw[hP,aw (bi h)]
  rfl
 | y :: ys,pre,h=>by
  have ih:=zo hl hP ys (pre++[y]) (av h)
  rw[hP,az (bq h),bk h,aL h (by omega),ih,List.length_append,List.length_singleton]
  show _=F (if p y=true then(pre.length:Int) else r5 p ys (pre.length+1))
  by_cases hp:p y=true
  ·rw[if_pos hp,if_pos hp]
  ·rw[if_neg hp,if_neg hp]
end
section
variable {s:List aj} {r:al} {x:ByteArray} (hl:s.length≤1000000)
include hl
end
section
end
section
end
section
variable {c:List Int} (hc:V2 c)
include hc
end
def Ww (s:List aj):Prop:=s.length≤121 ∧ ∀ c∈s,c.2.1.size≤6401
theorem Ww.sz {s:List aj} (h:Ww s) : ∀ c∈s,c.2.1.size≤9223372036854775807:=fun c hc=>Nat.le_trans (h.2 c hc) (by decide)
section
variable {c:List Int} (hc:V2 c)
include hc
end
section
variable {s a:List aj} (hs:bQ s=true) (ha:bQ a=true)
include hs ha
end
section
variable {s:List aj} {a:aJ} (hs : ∀ c∈s,c.2.1.size≤9223372036854775807) (hl:s.length≤1000000)
include hs hl
end
theorem Wr {x:ByteArray} (hx:x.size≤9223372036854775807):yy x=some (((df x).getD [],(df x).isSome,()),()):=by
 have hl:(lb x).length≤9223372036854775807:=by rw[qi]; exact hx
 have hc:cc x (⟨#[61]⟩:ByteArray)=some ((ba (if [61].isPrefixOf (lb x)=true then(lb x).drop 1 else lb x),[61].isPrefixOf (lb x),()),()):=by
  have:=rI (lb x) [61] hl
  rwa[hY] at this
 have hsz:(ba ((lb x).drop 1)).size≤9223372036854775807:=by
  rw[aN,List.length_drop]
  omega
 have hp:List.isPrefixOf [61] (lb x)=decide ((lb x).head? = some 61):=by
  cases lb x with
  | nil=>rfl
  | cons b l =>
   by_cases h:b=61
   ·subst h
    rfl
   ·simp[List.isPrefixOf,h,Ne.symm h]
 rw[IU,hc,hp]
 simp only[Option.bind_some]
 unfold df
 by_cases hb:(lb x).head? = some 61
 ·simp only[hb,decide_true,Bool.not_true,Bool.false_eq_true,if_false,if_true,true_and]
  rw[(Bq hsz).2.1]
  simp only[Option.bind_some]
  cases hr:(xP (ba ((lb x).drop 1))).2 with
  | true=>rfl
  | false =>
   rw[(Bq hsz).2.2.2 hr]
   rfl
 ·simp only[hb,decide_false,Bool.not_false,if_true,false_and,if_false]
  rfl
theorem UA {x:ByteArray} (hx:x.size≤9223372036854775807):oQ x=some (((df x).getD [],(df x).isSome,()),()):=by
 rw[IJ]
 unfold df
 cases hl':lb x with
 | nil =>
  have he:x=ba []:=by rw[←hY x,hl']
  have h2:(ByteArray.toList x == ByteArray.toList (⟨#[]⟩:ByteArray))=true:=by
   rw[he]
   have:(⟨#[]⟩:ByteArray)=ba []:=rfl
   rw[this,dD]
   simp
  rw[if_pos h2,if_neg (by simp)]
  rfl
 | cons b l =>
  have hx':x=ba (b :: l):=by rw[←hl',hY]
  subst hx'
  have hsz:(ba l).size≤9223372036854775807:=by
   rw[aN] at hx ⊢
   simp only[List.length_cons] at hx
   omega
  have he:(ByteArray.toList (ba (b :: l)) == ByteArray.toList (⟨#[]⟩:ByteArray))=false:=by
   have:(⟨#[]⟩:ByteArray)=ba []:=rfl
   rw[this,dD]
   simp
  rw[he,rG]
  simp only[Bool.false_eq_true,if_false]
  by_cases hb:b=61
  ·subst hb
   rw[if_neg (by decide)]
   have hsl : ∀(k:ByteArray→Option ((List aa×(Bool×Unit))×Unit)),iw (ba (61 :: l)) 1 k=k (ba l):=fun k=>by
    have:=fN (l:=61 :: l) (n:=1) (f:=k) (by simp)
    exact this
   rw[hsl,(Bq hsz).1]
   simp only[Option.bind_some,List.head?_cons,true_and,List.drop_succ_cons,List.drop_zero]
   cases hr:(xP (ba l)).2 with
   | true=>rfl
   | false =>
    rw[(Bq hsz).2.2.2 hr]
    rfl
  ·have hb':((b.toNat:Int) != 61)=true:=by
    rw[bne_iff_ne]
    intro h
    apply hb
    apply UInt8.toNat_inj.1
    have:((61:UInt8).toNat)=61:=rfl
    omega
   rw[if_pos hb']
   simp only[List.head?_cons,Option.some.injEq,hb,false_and,if_false]
   rfl
section
variable {f:List aa} (hf:fV f=true)
include hf
end
section
variable {x:ByteArray} (hx:x.size≤9223372036854775807)
include hx
end
def aC (s:List aj) (i:Nat):al:=(s.getD i ap.dflt).1
def fo (s:List aj) (i:Nat):ByteArray:=(s.getD i ap.dflt).2.1
noncomputable def mw (s:List aj) (i:Nat):List aJ:=cy ((df (fo s i)).getD [])
def sq (s:List aj) (ar:List aJ):List Nat:=(List.range s.length).filter fun k=>ar.any fun a=>dI a (aC s k)
noncomputable def bB (s:List aj) (i:Nat):List Nat:=sq s (mw s i)
def aO (s:List aj) (F:Nat→ab):List ac:=(List.range s.length).map fun k=>(aC s k,F k,())
theorem Cf {s:List aj} {ar:List aJ} {k:Nat}:k∈sq s ar↔k < s.length∧(ar.any fun a=>dI a (aC s k))=true:=by
 unfold sq
 rw[List.mem_filter,List.mem_range]
theorem Jf {s:List aj} : ∀ i,∀ k∈bB s i,k∈List.range s.length:=fun i k hk=>List.mem_range.2 (Cf.1 hk).1
theorem LM (s:List aj) (ar:List aJ) (F:Nat→ab):jA ar (aO s F)=(sq s ar).map fun k=>(aC s k,F k,()):=by
 unfold jA aO sq
 rw[List.filter_map]
 rfl
theorem V6 {s:List aj} {ar:List aJ} {F G:Nat→ab} (h : ∀ k∈sq s ar,F k=G k):jA ar (aO s F)=jA ar (aO s G):=by
 rw[LM,LM]
 exact List.map_congr_left fun k hk=>by rw[h k hk]
theorem Io {f:List aa} {l m:List ac} (hf:fV f=true) (h:jA (cy f) l=jA (cy f) m):iO f l=iO f m:=by
 rw[←LD (l:=l) hf,←LD (l:=m) hf,h]
theorem zp {s:List aj} {i:Nat} {f:List aa} {F G:Nat→ab} (hx:(fo s i).size≤9223372036854775807) (hf:df (fo s i)=some f) (h : ∀ k∈bB s i,F k=G k):iO f (aO s F)=iO f (aO s G):=by
 refine Io (lN hf hx) (V6 fun k hk=>h k ?_)
 unfold bB mw
 rw[hf]
 exact hk
section
variable (s:List aj) (told:Nat→Bool) (given:Nat→ab)
def UB (i:Nat):Prop:=told i=true∨df (fo s i)=none∨dH (bB s) i i
open Classical in
noncomputable def kE:Nat→Nat→ab
 | 0,_=>v0
 | n+1,i=>if told i=true then given i else match df (fo s i) with
  | none=>(bo (lb (fo s i))).1
  | some f=>if dH (bB s) i i then vE 5 else iO f (aO s (kE n))
noncomputable def cO (i:Nat):ab:=kE s told given (s.length+1) i
variable {s told given}
theorem Sk {i:Nat} (h:UB s told i) (n m:Nat):kE s told given (n+1) i=kE s told given (m+1) i:=by
 unfold kE
 by_cases ht:told i=true
 ·rw[if_pos ht,if_pos ht]
 ·rw[if_neg ht,if_neg ht]
  cases hf:df (fo s i) with
  | none=>rfl
  | some f =>
   by_cases hr:dH (bB s) i i
   ·simp only[if_pos hr]
   ·rcases h with h | h | h
    ·exact absurd h ht
    ·rw[hf] at h; cases h
    ·exact absurd h hr
open Classical in
theorem Vc {i k:Nat} (hk:k∈bB s i):1≤wb (bB s) (List.range s.length) i:=by
 unfold wb
 have:k∈(List.range s.length).filter fun j=>decide (dH (bB s) i j):=List.mem_filter.2 ⟨Jf i k hk,by
  rw[decide_eq_true_eq]
  exact .one hk⟩
 exact List.length_pos_of_mem this
theorem Sl (i:Nat):wb (bB s) (List.range s.length) i≤s.length:=by
 unfold wb
 refine Nat.le_trans (List.length_filter_le _ _) ?_
 rw[List.length_range]
 exact Nat.le_refl _
theorem Sm (hs : ∀ i,(fo s i).size≤9223372036854775807) {i n m:Nat} (ih : ∀ k∈bB s i,kE s told given n k=kE s told given m k):kE s told given (n+1) i=kE s told given (m+1) i:=by
 unfold kE
 by_cases ht:told i=true
 ·rw[if_pos ht,if_pos ht]
 ·rw[if_neg ht,if_neg ht]
  cases hf:df (fo s i) with
  | none=>rfl
  | some f =>
   by_cases hr:dH (bB s) i i
   ·simp only[if_pos hr]
   ·simp only[if_neg hr]
    exact zp (hs i) hf ih
theorem CX (hs : ∀ i,(fo s i).size≤9223372036854775807) : ∀(n m i:Nat),wb (bB s) (List.range s.length) i < n→wb (bB s) (List.range s.length) i < m→kE s told given n i=kE s told given m i
 | 0,_,_,h,_=>by omega
 | _+1,0,_,_,h=>by omega
 | n+1,m+1,i,hn,hm=>by
  refine Sm hs fun k hk => ?_
  have hp:=Vc hk
  by_cases hl:UB s told k
  ·obtain⟨n',rfl⟩ : ∃ n',n=n'+1:=⟨n - 1,by omega⟩
   obtain⟨m',rfl⟩ : ∃ m',m=m'+1:=⟨m - 1,by omega⟩
   exact Sk hl n' m'
  ·have hc:=KO (N:=List.range s.length) Jf hk fun hr=>hl (.inr (.inr hr))
   exact CX hs n m k (by omega) (by omega)
open Classical in
theorem qv (hs : ∀ i,(fo s i).size≤9223372036854775807) (i:Nat):cO s told given i=if told i=true then given i else match df (fo s i) with
  | none=>(bo (lb (fo s i))).1
  | some f=>if dH (bB s) i i then vE 5 else iO f (aO s (cO s told given)):=by
 have h1:cO s told given i=kE s told given (s.length+2) i:=CX hs _ _ i (by have:=Sl (s:=s) i; omega) (by have:=Sl (s:=s) i; omega)
 rw[h1]
 rfl
end
end Go.Proofs.YtnodjiikdgmeaaaGreatDoor.Abs
