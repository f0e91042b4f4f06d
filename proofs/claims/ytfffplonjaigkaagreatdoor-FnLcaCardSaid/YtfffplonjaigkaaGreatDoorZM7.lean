/- Plain laws: sheets as rows in order: what is taken out, what is put in, what lies at a place. -/
import Derived.Test.YtfffplonjaigkaaGreatDoorZM6
set_option linter.unusedVariables false
set_option linter.unusedSimpArgs false
set_option linter.unusedSectionVars false
open Bool renaming and_eq_true→P8,eq_false_iff→X3,or_eq_false_iff→au_,or_eq_true→Z6
open ByteArray renaming toList→P2
open List renaming any_eq_true→az_,foldl_cons→Z5,getElem?_eq_some_iff→Q9,getElem?_of_mem→bw_,length_append→P6,length_cons→Q1,length_filter_le→bo_,length_map→W1,length_nil→S4,length_singleton→P3,mem_append→T6,mem_cons_of_mem→Q5,mem_cons→R4,mem_filter→ai_,mem_map→Y5,mem_of_find?_eq_some→av_,mem_of_getElem?→T2,mem_singleton→R7,pairwise_cons→S5,pairwise_map→Z2,pairwise_singleton→Y7
open List.Pairwise renaming filter→aj_,nil→ab_
open Nat renaming le_trans→T5,zero_le→Y6
open Prod renaming ext→aa_
open _root_ renaming ByteArray→P0,absurd→S0,decide_eq_false→S3,decide_eq_true_eq→Q0,decide_eq_true→R5,if_neg→P4,if_pos→P5,of_decide_eq_true→U8
namespace Go.Proofs.YtfffplonjaigkaaGreatDoor.Abs
open Go
theorem vH {α:Type} {lt:α→α→Bool} (hi : ∀ x,lt x x=false) (ht : ∀ x y z,lt x y=true→lt y z=true→lt x z=true) : ∀ {l m:List α},(l.Pairwise fun a b=>lt a b=true)→(m.Pairwise fun a b=>lt a b=true)→(∀ x,x∈l↔x∈m)→l=m
 | [],[],_,_,_=>rfl
 | [],y :: m,_,_,h=>by have:=(h y).2 (by simp); cases this
 | x :: l,[],_,_,h=>by have:=(h x).1 (by simp); cases this
 | x :: l,y :: m,hl,hm,h=>by
  rw[S5] at hl hm
  have hxy:x=y:=by
   rcases R4.1 ((h x).1 (by simp)) with e | hx
   ·exact e
   ·rcases R4.1 ((h y).2 (by simp)) with e | hy
    ·exact e.symm
    ·have:=ht _ _ _ (hl.1 y hy) (hm.1 x hx)
     rw[hi] at this
     cases this
  subst hxy
  congr 1
  refine vH hi ht hl.2 hm.2 fun z=>⟨fun hz => ?_,fun hz => ?_⟩
  ·rcases R4.1 ((h z).1 (Q5 _ hz)) with e | hz'
   ·subst e
    have:=hl.1 z hz
    rw[hi] at this
    cases this
   ·exact hz'
  ·rcases R4.1 ((h z).2 (Q5 _ hz)) with e | hz'
   ·subst e
    have:=hm.1 z hz
    rw[hi] at this
    cases this
   ·exact hz'
theorem kH {a b:aw}:bi a b=true↔a.2.1 < b.2.1∨(a.2.1=b.2.1∧a.1 < b.1):=by
 unfold bi
 simp
theorem gn (a:aw):bi a a=false:=by
 rw[X3]
 intro h
 have:=kH.1 h
 omega
theorem eT {a b c:aw} (h:bi a b=true) (k:bi b c=true):bi a c=true:=by
 have:=kH.1 h
 have:=kH.1 k
 rw[kH]
 omega
theorem M4 {a b:aw} (h1:a.1=b.1) (h2:a.2.1=b.2.1):a=b:=aa_ h1 (aa_ h2 rfl)
theorem qP (a b:aw):bi a b=true∨a=b∨bi b a=true:=by
 rw[kH,kH]
 by_cases h:a=b
 ·exact .inr (.inl h)
 ·by_cases h2:a.2.1=b.2.1
  ·have:a.1≠b.1:=fun e=>h (M4 e h2)
   omega
  ·omega
theorem xZ {a b:aw} (h:bi a b=true):a≠b:=by
 rintro rfl
 rw[gn] at h
 cases h
def em (s:List af):Prop:=s.Pairwise fun a b=>bi a.1 b.1=true
theorem GW : ∀ {s:List af} {o:Option af},vG o s=true↔(∀ p,o=some p → ∀ c∈s,bi p.1 c.1=true)∧em s ∧ ∀ c∈s,bQ c.1=true∧ii c.2.1=true
 | [],o=>by simp[vG,em]
 | c :: l,o=>by
  have ih:=GW (s:=l) (o:=some c)
  simp only[vG,P8,ih]
  constructor
  ·rintro⟨⟨⟨h1,h2⟩,h3⟩,h4,h5,h6⟩
   refine⟨?_,S5.2 ⟨fun d hd=>h4 c rfl d hd,h5⟩,?_⟩
   ·rintro p rfl d hd
    have h3:bi p.1 c.1=true:=h3
    rcases R4.1 hd with rfl | hd
    ·exact h3
    ·exact eT h3 (h4 c rfl d hd)
   ·intro d hd
    rcases R4.1 hd with rfl | hd
    ·exact⟨h1,h2⟩
    ·exact h6 d hd
  ·rintro⟨h1,h2,h3⟩
   have h2:=S5.1 h2
   refine⟨⟨h3 c (by simp),?_⟩,?_,h2.2,fun d hd=>h3 d (Q5 _ hd)⟩
   ·cases o with
    | none=>rfl
    | some p=>exact h1 p rfl c (by simp)
   ·rintro p hp d hd
    cases hp
    exact h2.1 d hd
theorem d8 {s:List af}:bd s=true↔em s∧(∀ c∈s,bQ c.1=true∧ii c.2.1=true)∧s.length≤120:=by
 unfold bd
 rw[P8,GW,Q0]
 constructor
 ·rintro⟨⟨_,h1,h2⟩,h3⟩
  exact⟨h1,h2,h3⟩
 ·rintro⟨h1,h2,h3⟩
  exact⟨⟨(fun p hp=>by cases hp),h1,h2⟩,h3⟩
theorem B8 {x:P0}:ii x=true↔(ft x).2=true∧x≠eS∧(ft x).1=x:=by
 unfold ii
 simp[P8,and_assoc]
theorem L4 {x:P0} (h:ii x=true):x≠eS:=(B8.1 h).2.1
theorem B9 (x:P0):(ft x).1.size≤200:=by
 by_cases h:x.size≤9223372036854775807
 ·exact(Ae h).2.2
 ·unfold ft
  rw[dif_neg h]
  decide
theorem IP {x:P0} (h:ii x=true):x.size≤200:=by
 have:=B9 x
 rw[(B8.1 h).2.2] at this
 exact this
def jp (r:aw) (s:List af):List af:=s.filter fun c => !decide (c.1=r)
def nr (r:aw) (x:P0):List af→List af
 | []=>[(r,x,())]
 | c :: l=>if bi c.1 r=true then c :: nr r x l else(r,x,()) :: jp r (c :: l)
noncomputable def gP (s:List af) (r:aw) (x:P0):List af:=if x=eS then jp r s else nr r x s
theorem A6 {r:aw} {s:List af} {c:af}:c∈jp r s↔c∈s∧c.1≠r:=by simp[jp]
theorem GX {r:aw} {s:List af} (h:em s):em (jp r s):=aj_ _ h
theorem GY (r:aw) (s:List af):(jp r s).length≤s.length:=bo_ _ _
theorem qQ {r:aw} {c:af} {l:List af} (h:c.1≠r):jp r (c :: l)=c :: jp r l:=by simp[jp,h]
theorem xh {r:aw} {c:af} {l:List af} (h:c.1=r):jp r (c :: l)=jp r l:=by simp[jp,h]
theorem ya {r:aw} {x:P0} : ∀ s:List af,(nr r x s).Perm (jp r s++[(r,x,())])
 | []=>by simp[nr,jp]
 | c :: l=>by
  unfold nr
  by_cases h:bi c.1 r=true
  ·rw[P5 h,qQ (xZ h)]
   exact(ya l).cons c
  ·rw[P4 h]
   exact(List.perm_append_singleton _ _).symm
theorem GZ {r:aw} {x:P0} {s:List af} {c:af}:c∈nr r x s↔(c∈s∧c.1≠r)∨c=(r,x,()):=by
 rw[(ya s).mem_iff,T6,A6,R7]
theorem M5 (r:aw) (x:P0) (s:List af):(nr r x s).length≤s.length+1:=by
 rw[(ya s).length_eq,P6,P3]
 have:=GY r s
 omega
theorem G0 {r:aw} {x:P0} : ∀ {s:List af},em s→em (nr r x s)
 | [],_=>by simp[nr,em]
 | c :: l,h=>by
  have h':=S5.1 h
  unfold nr
  by_cases k:bi c.1 r=true
  ·rw[P5 k]
   refine S5.2 ⟨fun d hd => ?_,G0 h'.2⟩
   rcases GZ.1 hd with⟨hd,_⟩ | rfl
   ·exact h'.1 d hd
   ·exact k
  ·rw[P4 k]
   refine S5.2 ⟨fun d hd => ?_,GX h⟩
   obtain⟨hd,hn⟩:=A6.1 hd
   show bi r d.1=true
   rcases qP c.1 r with e | e | e
   ·exact S0 e k
   ·rcases R4.1 hd with rfl | hd
    ·exact S0 e hn
    ·rw[←e]
     exact h'.1 d hd
   ·rcases R4.1 hd with rfl | hd
    ·exact e
    ·exact eT e (h'.1 d hd)
theorem G1 {r:aw} {x:P0} {s:List af} (h:em s):em (gP s r x):=by
 unfold gP
 split
 ·exact GX h
 ·exact G0 h
theorem M6 (s:List af) (r:aw) (x:P0):(gP s r x).length≤s.length+1:=by
 unfold gP
 split
 ·have:=GY r s
  omega
 ·exact M5 r x s
theorem oe {r:aw} {x:P0} {s:List af} {c:af}:c∈gP s r x↔(c∈s∧c.1≠r)∨(x≠eS∧c=(r,x,())):=by
 unfold gP
 by_cases h:x=eS
 ·rw[P5 h,A6]
  simp[h]
 ·rw[P4 h,GZ]
  simp[h]
theorem gQ {q:aw} : ∀ {s:List af},(∀ c∈s,c.1≠q)→aC q s=eS
 | [],_=>rfl
 | c :: l,h=>by
  rw[aC,P4 (h c (by simp))]
  exact gQ fun d hd=>h d (Q5 _ hd)
theorem iJ : ∀ {s:List af} {c:af},em s→c∈s→aC c.1 s=c.2.1
 | d :: l,c,h,hc=>by
  have h':=S5.1 h
  rw[aC]
  rcases R4.1 hc with rfl | hc
  ·rw[P5 rfl]
  ·rw[P4 (xZ (h'.1 c hc))]
   exact iJ h'.2 hc
theorem tC {q:aw} {s:List af} (h:em s):(∃ c∈s,c.1=q∧c.2.1=aC q s)∨((∀ c∈s,c.1≠q)∧aC q s=eS):=by
 by_cases k : ∃ c∈s,c.1=q
 ·obtain⟨c,hc,rfl⟩:=k
  exact .inl ⟨c,hc,rfl,(iJ h hc).symm⟩
 ·have k' : ∀ c∈s,c.1≠q:=fun c hc e=>k ⟨c,hc,e⟩
  exact .inr ⟨k',gQ k'⟩
theorem Kz {q r:aw} {x:P0} {s:List af} (h:em s):aC q (gP s r x)=if q=r then x else aC q s:=by
 have hs:=G1 (r:=r) (x:=x) h
 by_cases e:q=r
 ·subst e
  rw[P5 rfl]
  by_cases hx:x=eS
  ·rw[gQ,hx]
   intro c hc
   rcases oe.1 hc with⟨_,hn⟩ | ⟨hn,_⟩
   ·exact hn
   ·exact S0 hx hn
  ·exact iJ (c:=(q,x,())) hs (oe.2 (.inr ⟨hx,rfl⟩))
 ·rw[P4 e]
  rcases tC (q:=q) h with⟨c,hc,rfl,hv⟩ | ⟨hn,hv⟩
  ·rw[iJ hs (oe.2 (.inl ⟨hc,e⟩)),hv]
  ·rw[hv,gQ]
   intro c hc
   rcases oe.1 hc with⟨hc,_⟩ | ⟨_,rfl⟩
   ·exact hn c hc
   ·exact fun k=>e k.symm
theorem KA {s t:List af} (hs:em s) (ht:em t) (ns : ∀ c∈s,c.2.1≠eS) (nt : ∀ c∈t,c.2.1≠eS) (h : ∀ q,aC q s=aC q t):s=t:=by
 refine vH (lt:=fun a b:af=>bi a.1 b.1) (fun x=>gn _) (fun x y z h k=>eT h k) hs ht fun c=>⟨fun hc => ?_,fun hc => ?_⟩
 ·have h1:=iJ hs hc
  rw[h] at h1
  rcases tC (q:=c.1) ht with⟨d,hd,e1,e2⟩ | ⟨_,e⟩
  ·have:d=c:=aa_ e1 (aa_ (e2.trans h1) rfl)
   rw[←this]
   exact hd
  ·exact S0 (h1.symm.trans e) (ns c hc)
 ·have h1:=iJ ht hc
  rw[←h] at h1
  rcases tC (q:=c.1) hs with⟨d,hd,e1,e2⟩ | ⟨_,e⟩
  ·have:d=c:=aa_ e1 (aa_ (e2.trans h1) rfl)
   rw[←this]
   exact hd
  ·exact S0 (h1.symm.trans e) (nt c hc)
theorem Oc {r:aw} {x:P0} {s:List af} (h : ∀ c∈s,c.2.1≠eS) : ∀ c∈gP s r x,c.2.1≠eS:=by
 intro c hc
 rcases oe.1 hc with⟨hc,_⟩ | ⟨hx,rfl⟩
 ·exact h c hc
 ·exact hx
theorem IQ {s:List af} (h:bd s=true) : ∀ c∈s,c.2.1≠eS:=fun c hc=>L4 ((d8.1 h).2.1 c hc).2
theorem qR {s:List af} (h:bd s=true):em s:=(d8.1 h).1
theorem d9 {s:List af} (h:bd s=true):s.length≤120:=(d8.1 h).2.2
theorem pH {s:List af} (h:bd s=true) : ∀ c∈s,c.2.1.size≤200:=fun c hc=>IP ((d8.1 h).2.1 c hc).2
def tD (l:List aw):Prop:=l.Pairwise fun a b=>bi a b=true
def mf (r:aw):List aw→List aw
 | []=>[r]
 | c :: l=>if bi c r=true then c :: mf r l else if c=r then c :: l else r :: c :: l
def vI (l:List aw):List aw:=l.foldr mf []
theorem yb {r q:aw} : ∀ {l:List aw},q∈mf r l↔q=r∨q∈l
 | []=>by simp[mf]
 | c :: l=>by
  unfold mf
  by_cases h:bi c r=true
  ·rw[P5 h,R4,yb (l:=l),R4]
   constructor
   ·rintro(h | h | h)
    ·exact .inr (.inl h)
    ·exact .inl h
    ·exact .inr (.inr h)
   ·rintro(h | h | h)
    ·exact .inr (.inl h)
    ·exact .inl h
    ·exact .inr (.inr h)
  ·rw[P4 h]
   by_cases e:c=r
   ·rw[P5 e,R4]
    constructor
    ·rintro(h | h)
     ·exact .inl (h.trans e)
     ·exact .inr (.inr h)
    ·rintro(h | h | h)
     ·exact .inl (h.trans e.symm)
     ·exact .inl h
     ·exact .inr h
   ·rw[P4 e,R4]
theorem EP {r:aw} : ∀ {l:List aw},tD l→tD (mf r l)
 | [],_=>by simp[mf,tD]
 | c :: l,h=>by
  have h':=S5.1 h
  unfold mf
  by_cases k:bi c r=true
  ·rw[P5 k]
   refine S5.2 ⟨fun d hd => ?_,EP h'.2⟩
   rcases yb.1 hd with rfl | hd
   ·exact k
   ·exact h'.1 d hd
  ·rw[P4 k]
   by_cases e:c=r
   ·rw[P5 e]
    exact h
   ·rw[P4 e]
    have hr:bi r c=true:=by
     rcases qP c r with x | x | x
     ·exact S0 x k
     ·exact S0 x e
     ·exact x
    refine S5.2 ⟨fun d hd => ?_,h⟩
    rcases R4.1 hd with rfl | hd
    ·exact hr
    ·exact eT hr (h'.1 d hd)
theorem tE : ∀ l:List aw,tD (vI l)
 | []=>ab_
 | c :: l=>EP (tE l)
theorem yc {q:aw} : ∀ {l:List aw},q∈vI l↔q∈l
 | []=>Iff.rfl
 | c :: l=>by
  show q∈mf c (vI l)↔_
  rw[yb,yc (l:=l),R4]
theorem L5 {l m:List aw} (hl:tD l) (hm:tD m) (h : ∀ q,q∈l↔q∈m):l=m:=vH (lt:=bi) gn (fun _ _ _=>eT) hl hm h
theorem EQ : ∀ l:List aw,(vI l).length≤l.length
 | []=>Nat.le_refl _
 | c :: l=>by
  have ih:=EQ l
  have : ∀ m:List aw,(mf c m).length≤m.length+1:=by
   intro m
   induction m with
   | nil=>simp[mf]
   | cons d m ih =>
    unfold mf
    split
    ·simp only[Q1]
     omega
    ·split
     ·simp only[Q1]
      omega
     ·simp only[Q1]
      omega
  have:=this (vI l)
  show(mf c (vI l)).length≤_
  simp only[Q1]
  omega
def A7 (l:List aP):Prop:=l.Pairwise fun a b=>bi a.1 b.1=true
def vJ (L M:List af) (c:aP):Prop:=c.2.1=aC c.1 L∧c.2.2.1=aC c.1 M∧c.2.1≠c.2.2.1
theorem L6 {l m:List aP} (hl:A7 l) (hm:A7 m) (h : ∀ q,q∈l↔q∈m):l=m:=vH (lt:=fun a b:aP=>bi a.1 b.1) (fun _=>gn _) (fun _ _ _ h k=>eT h k) hl hm h
noncomputable def Ph (a b:List af) (q:aw):aP:=(q,aC q a,aC q b,())
noncomputable def gp (a:List af):List aw:=a.map fun c=>c.1
noncomputable def qi (a b:List af):List aP:=((vI (gp a++gp b)).map (Ph a b)).filter fun c => !decide (c.2.1=c.2.2.1)
theorem A8 (a b:List af):A7 (qi a b):=by
 refine aj_ _ ?_
 rw[Z2]
 exact tE _
theorem tF {a:List af} {q:aw}:q∈gp a ↔ ∃ c∈a,c.1=q:=by simp[gp]
theorem mB {a:List af} {q:aw} (h:aC q a≠eS):q∈gp a:=by
 rw[tF]
 apply Classical.byContradiction
 intro hn
 exact h (gQ fun c hc e=>hn ⟨c,hc,e⟩)
theorem r6 {a b:List af} {c:aP}:c∈qi a b↔vJ a b c:=by
 unfold qi vJ
 rw[ai_,Y5]
 constructor
 ·rintro⟨⟨q,_,rfl⟩,h⟩
  exact⟨rfl,rfl,by simpa using h⟩
 ·rintro⟨h1,h2,h3⟩
  refine⟨⟨c.1,?_,?_⟩,by simpa using h3⟩
  ·rw[yc,T6]
   by_cases e:aC c.1 a=eS
   ·exact .inr (mB fun e2=>h3 (by rw[h1,h2,e,e2]))
   ·exact .inl (mB e)
  ·exact aa_ rfl (aa_ h1.symm (aa_ h2.symm rfl))
theorem M7 (a b:List af):(qi a b).length≤a.length+b.length:=by
 unfold qi
 refine T5 (bo_ _ _) ?_
 rw[W1]
 refine T5 (EQ _) ?_
 simp[gp]
noncomputable def cC (c:aP) (r:List aP):List aP:=if c.2.1=c.2.2.1 then r else c :: r
theorem Od {c d:aP} {r:List aP}:c∈cC d r↔(c=d∧d.2.1≠d.2.2.1)∨c∈r:=by
 unfold cC
 by_cases h:d.2.1=d.2.2.1
 ·rw[P5 h]
  simp[h]
 ·rw[P4 h,R4]
  simp[h]
theorem r7 {q:aw} {f t:P0} {L M L' M':List af} {r:List aP} (hf:aC q L=f) (ht:aC q M=t) (hL : ∀ p,p≠q→aC p L=aC p L') (hM : ∀ p,p≠q→aC p M=aC p M') (nL:aC q L'=eS) (nM:aC q M'=eS)
  (ih : ∀ c,c∈r↔vJ L' M' c) : ∀ c,c∈cC (q,f,t,()) r↔vJ L M c:=by
 intro c
 rw[Od,ih]
 unfold vJ
 by_cases e:c.1=q
 ·rw[e,hf,ht,nL,nM]
  constructor
  ·rintro(⟨rfl,h⟩ | ⟨h1,h2,h3⟩)
   ·exact⟨rfl,rfl,h⟩
   ·exact S0 (h1.trans h2.symm) h3
  ·rintro⟨h1,h2,h3⟩
   refine .inl ⟨aa_ e (aa_ h1 (aa_ h2 rfl)),?_⟩
   rw[h1,h2] at h3
   exact h3
 ·rw[hL _ e,hM _ e]
  constructor
  ·rintro(⟨rfl,h⟩ | h)
   ·exact S0 rfl e
   ·exact h
  ·exact fun h => .inr h
theorem vK {q:aw} {f t:P0} {r:List aP} (hr:A7 r) (hq : ∀ c∈r,bi q c.1=true):A7 (cC (q,f,t,()) r):=by
 unfold cC
 split
 ·exact hr
 ·exact S5.2 ⟨hq,hr⟩
noncomputable def g5:List af→List af→List aP
 | [],[]=>[]
 | a :: l,[]=>cC (a.1,a.2.1,eS,()) (g5 l [])
 | [],b :: m=>cC (b.1,eS,b.2.1,()) (g5 [] m)
 | a :: l,b :: m=>if bi a.1 b.1=true then cC (a.1,a.2.1,eS,()) (g5 l (b :: m)) else if bi b.1 a.1=true then cC (b.1,eS,b.2.1,()) (g5 (a :: l) m) else cC (a.1,a.2.1,b.2.1,()) (g5 l m)
termination_by l m=>l.length+m.length
theorem fB {p:aw} {a:af} {l:List af} (h:p≠a.1):aC p (a :: l)=aC p l:=by rw[aC,P4 (fun e=>h e.symm)]
theorem fC {a:af} {l:List af}:aC a.1 (a :: l)=a.2.1:=by rw[aC,P5 rfl]
theorem di {q:aw} {l:List af} (h : ∀ c∈l,bi q c.1=true):aC q l=eS:=gQ fun c hc e=>by
 have:=h c hc
 rw[e,gn] at this
 cases this
theorem pI {L M:List af} {c:aP} (h:vJ L M c):(∃ d∈L,d.1=c.1) ∨ ∃ d∈M,d.1=c.1:=by
 obtain⟨h1,h2,h3⟩:=h
 by_cases e:aC c.1 L=eS
 ·exact .inr (tF.1 (mB fun e2=>h3 (by rw[h1,h2,e,e2])))
 ·exact .inl (tF.1 (mB e))
theorem r8 : ∀(l m:List af),em l→em m→A7 (g5 l m) ∧ ∀ c,c∈g5 l m↔vJ l m c
 | [],[],_,_=>by
  unfold g5
  refine⟨ab_,fun c=>⟨(fun h=>by cases h),?_⟩⟩
  rintro⟨h1,h2,h3⟩
  exact S0 (h1.trans h2.symm) h3
 | a :: l,[],hl,hm=>by
  have hl':=S5.1 hl
  obtain⟨i1,i2⟩:=r8 l [] hl'.2 hm
  unfold g5
  refine⟨vK i1 fun c hc => ?_,r7 fC rfl (fun p hp=>fB hp) (fun _ _=>rfl) (di hl'.1) rfl i2⟩
  rcases pI ((i2 c).1 hc) with⟨d,hd,e⟩ | ⟨d,hd,e⟩
  ·rw[←e]
   exact hl'.1 d hd
  ·cases hd
 | [],b :: m,hl,hm=>by
  have hm':=S5.1 hm
  obtain⟨i1,i2⟩:=r8 [] m hl hm'.2
  unfold g5
  refine⟨vK i1 fun c hc => ?_,r7 rfl fC (fun _ _=>rfl) (fun p hp=>fB hp) rfl (di hm'.1) i2⟩
  rcases pI ((i2 c).1 hc) with⟨d,hd,e⟩ | ⟨d,hd,e⟩
  ·cases hd
  ·rw[←e]
   exact hm'.1 d hd
 | a :: l,b :: m,hl,hm=>by
  have hl':=S5.1 hl
  have hm':=S5.1 hm
  unfold g5
  by_cases h1:bi a.1 b.1=true
  ·rw[P5 h1]
   obtain⟨i1,i2⟩:=r8 l (b :: m) hl'.2 hm
   have hb : ∀ c∈b :: m,bi a.1 c.1=true:=by
    intro c hc
    rcases R4.1 hc with rfl | hc
    ·exact h1
    ·exact eT h1 (hm'.1 c hc)
   refine⟨vK i1 fun c hc => ?_,r7 fC (di hb) (fun p hp=>fB hp) (fun _ _=>rfl) (di hl'.1) (di hb) i2⟩
   rcases pI ((i2 c).1 hc) with⟨d,hd,e⟩ | ⟨d,hd,e⟩
   ·rw[←e]
    exact hl'.1 d hd
   ·rw[←e]
    exact hb d hd
  ·rw[P4 h1]
   by_cases h2:bi b.1 a.1=true
   ·rw[P5 h2]
    obtain⟨i1,i2⟩:=r8 (a :: l) m hl hm'.2
    have ha : ∀ c∈a :: l,bi b.1 c.1=true:=by
     intro c hc
     rcases R4.1 hc with rfl | hc
     ·exact h2
     ·exact eT h2 (hl'.1 c hc)
    refine⟨vK i1 fun c hc => ?_,r7 (di ha) fC (fun _ _=>rfl) (fun p hp=>fB hp) (di ha) (di hm'.1) i2⟩
    rcases pI ((i2 c).1 hc) with⟨d,hd,e⟩ | ⟨d,hd,e⟩
    ·rw[←e]
     exact ha d hd
    ·rw[←e]
     exact hm'.1 d hd
   ·rw[P4 h2]
    obtain⟨i1,i2⟩:=r8 l m hl'.2 hm'.2
    have e:a.1=b.1:=by
     rcases qP a.1 b.1 with h | h | h
     ·exact S0 h h1
     ·exact h
     ·exact S0 h h2
    have hm'1 : ∀ c∈m,bi a.1 c.1=true:=by
     rw[e]
     exact hm'.1
    refine⟨vK i1 fun c hc => ?_,r7 fC (by rw[e]; exact fC) (fun p hp=>fB hp) (fun p hp=>fB (by rw[←e]; exact hp)) (di hl'.1) (di hm'1) i2⟩
    rcases pI ((i2 c).1 hc) with⟨d,hd,e'⟩ | ⟨d,hd,e'⟩
    ·rw[←e']
     exact hl'.1 d hd
    ·rw[←e']
     exact hm'1 d hd
termination_by l m=>l.length+m.length
theorem Oe {l m:List af} (hl:em l) (hm:em m):g5 l m=qi l m:=by
 obtain⟨h1,h2⟩:=r8 l m hl hm
 exact L6 h1 (A8 _ _) fun c=>by rw[h2,r6]
noncomputable def vL (o x y:List af) (q:aw):P0:=if aC q x=aC q o then aC q y else aC q x
noncomputable def G2 (o x y:List af) (q:aw):Bool := !decide (aC q x=aC q o) && (!decide (aC q y=aC q o) && !decide (aC q x=aC q y))
noncomputable def ye (o x y:List af):List aw:=vI (gp o++(gp x++gp y))
noncomputable def Ah (q:aw) (v:P0):List af:=if v=eS then [] else [(q,v,())]
noncomputable def jq (o x y:List af):List af:=(ye o x y).flatMap fun q=>Ah q (vL o x y q)
noncomputable def r9 (o x y:List af):List aw:=(ye o x y).filter (G2 o x y)
theorem qj {q:aw} {v:P0} {c:af}:c∈Ah q v↔c=(q,v,())∧v≠eS:=by
 unfold Ah
 by_cases h:v=eS
 ·rw[P5 h]
  simp[h]
 ·rw[P4 h,R7]
  simp[h]
theorem Ca {f:aw→P0} : ∀ {l:List aw},tD l→em (l.flatMap fun q=>Ah q (f q))
 | [],_=>ab_
 | r :: l,h=>by
  have h':=S5.1 h
  rw[List.flatMap_cons]
  refine List.pairwise_append.2 ⟨?_,Ca h'.2,?_⟩
  ·unfold Ah
   split
   ·exact ab_
   ·exact Y7 _ _
  ·intro a ha b hb
   obtain⟨rfl,_⟩:=qj.1 ha
   obtain⟨q,hq,hb⟩:=List.mem_flatMap.1 hb
   obtain⟨rfl,_⟩:=qj.1 hb
   exact h'.1 q hq
theorem yf (o x y:List af):em (jq o x y):=Ca (tE _)
theorem pJ {o x y:List af} {c:af}:c∈jq o x y↔c.1∈ye o x y∧c.2.1=vL o x y c.1∧c.2.1≠eS:=by
 unfold jq
 rw[List.mem_flatMap]
 constructor
 ·rintro⟨q,hq,hc⟩
  obtain⟨rfl,h⟩:=qj.1 hc
  exact⟨hq,rfl,h⟩
 ·rintro⟨h1,h2,h3⟩
  refine⟨c.1,h1,qj.2 ⟨aa_ rfl (aa_ h2 rfl),?_⟩⟩
  rw[←h2]
  exact h3
theorem L7 {o x y:List af} {q:aw}:q∈ye o x y↔q∈gp o∨q∈gp x∨q∈gp y:=by
 unfold ye
 rw[yc,T6,T6]
theorem ER {o x y:List af} {q:aw} (h:q ∉ ye o x y):aC q o=eS∧aC q x=eS∧aC q y=eS:=by
 rw[L7] at h
 have k : ∀ {a:List af},q ∉ gp a→aC q a=eS:=fun hn=>gQ fun c hc e=>hn (tF.2 ⟨c,hc,e⟩)
 exact⟨k fun e=>h (.inl e),k fun e=>h (.inr (.inl e)),k fun e=>h (.inr (.inr e))⟩
theorem IR (o x y:List af) (q:aw):aC q (jq o x y)=vL o x y q:=by
 by_cases h:q∈ye o x y
 ·by_cases e:vL o x y q=eS
  ·rw[e,gQ]
   intro c hc k
   obtain⟨_,h2,h3⟩:=pJ.1 hc
   rw[h2,k] at h3
   exact h3 e
  ·exact iJ (c:=(q,vL o x y q,())) (yf o x y) (pJ.2 ⟨h,rfl,e⟩)
 ·obtain⟨h1,h2,h3⟩:=ER h
  rw[gQ fun c hc k=>h (by have:=(pJ.1 hc).1; rw[k] at this; exact this)]
  unfold vL
  rw[h1,h2,P5 rfl,h3]
theorem M8 (o x y:List af) : ∀ c∈jq o x y,c.2.1≠eS:=fun c hc=>(pJ.1 hc).2.2
theorem M9 (o x y:List af):tD (r9 o x y):=aj_ _ (tE _)
theorem A9 {o x y:List af} {q:aw}:G2 o x y q=true↔aC q x≠aC q o∧aC q y≠aC q o∧aC q x≠aC q y:=by
 unfold G2
 simp
theorem Na {o x y:List af} {q:aw}:q∈r9 o x y↔G2 o x y q=true:=by
 unfold r9
 rw[ai_]
 refine⟨fun h=>h.2,fun h=>⟨?_,h⟩⟩
 apply Classical.byContradiction
 intro hn
 obtain⟨h1,h2,h3⟩:=ER hn
 obtain⟨k,_⟩:=A9.1 h
 exact k (h2.trans h1.symm)
noncomputable def mC (x:List af) (p:List af×List aw) (c:aP):List af×List aw :=
 if aC c.1 x=c.2.1 then(gP p.1 c.1 c.2.2.1,p.2) else if aC c.1 x=c.2.2.1 then p else(p.1,p.2++[c.1])
theorem Cb {o x y:List af} (hx:em x) (hx0 : ∀ c∈x,c.2.1≠eS) : ∀(ys pre:List aP),qi o y=pre++ys → ∀ p:List af×List aw,em p.1→(∀ c∈p.1,c.2.1≠eS)→p.2=(pre.filter fun c=>G2 o x y c.1).map (fun c=>c.1) →
  (∀ q,aC q p.1=if(∃ c∈pre,c.1=q∧aC q x=c.2.1) then aC q y else aC q x)→(ys.foldl (mC x) p)=(jq o x y,r9 o x y)
 | [],pre,he,p,h1,h2,h3,h4=>by
  rw[List.append_nil] at he
  subst he
  refine aa_ (KA h1 (yf o x y) h2 (M8 o x y) fun q => ?_) ?_
  ·show aC q p.1=_
   rw[h4,IR]
   unfold vL
   by_cases e:aC q x=aC q o
   ·rw[P5 e]
    by_cases k:aC q o=aC q y
    ·split
     ·rfl
     ·rw[e,k]
    ·rw[P5]
     exact⟨(q,aC q o,aC q y,()),r6.2 ⟨rfl,rfl,k⟩,rfl,e⟩
   ·rw[P4 e,P4]
    rintro⟨c,hc,rfl,hq⟩
    obtain⟨g1,_,_⟩:=r6.1 hc
    exact e (hq.trans g1)
  ·show p.2=_
   rw[h3]
   refine L5 ?_ (M9 o x y) fun q => ?_
   ·unfold tD
    rw[Z2]
    exact aj_ _ (A8 o y)
   ·rw[Na,Y5]
    constructor
    ·rintro⟨c,hc,rfl⟩
     exact(ai_.1 hc).2
    ·intro hq
     obtain⟨k1,k2,k3⟩:=A9.1 hq
     exact⟨(q,aC q o,aC q y,()),ai_.2 ⟨r6.2 ⟨rfl,rfl,fun e=>k2 e.symm⟩,hq⟩,rfl⟩
 | c :: ys,pre,he,p,h1,h2,h3,h4=>by
  have hc:vJ o y c:=r6.1 (by rw[he]; simp)
  obtain⟨g1,g2,g3⟩:=hc
  rw[Z5]
  have hnew : ∀ d∈pre,d.1≠c.1:=by
   intro d hd e
   have:=A8 o y
   rw[he] at this
   have:=(List.pairwise_append.1 this).2.2 d hd c (by simp)
   rw[e,gn] at this
   cases this
  refine Cb hx hx0 ys (pre++[c]) (aI he) _ ?_ ?_ ?_ ?_
  ·unfold mC
   split
   ·exact G1 h1
   ·split <;> exact h1
  ·unfold mC
   split
   ·exact Oc h2
   ·split <;> exact h2
  ·rw[List.filter_append,List.map_append,←h3]
   unfold mC
   have hb:G2 o x y c.1=true ↔ ¬aC c.1 x=c.2.1 ∧ ¬aC c.1 x=c.2.2.1:=by
    rw[A9,g1,g2]
    refine⟨fun⟨a,b,d⟩=>⟨a,d⟩,fun⟨a,d⟩=>⟨a,?_,d⟩⟩
    rw[g1,g2] at g3
    exact fun e=>g3 e.symm
   by_cases e1:aC c.1 x=c.2.1
   ·rw[P5 e1,List.filter_cons_of_neg (by rw[hb]; exact fun h=>h.1 e1)]
    simp
   ·rw[P4 e1]
    by_cases e2:aC c.1 x=c.2.2.1
    ·rw[P5 e2,List.filter_cons_of_neg (by rw[hb]; exact fun h=>h.2 e2)]
     simp
    ·rw[P4 e2,List.filter_cons_of_pos (by rw[hb]; exact⟨e1,e2⟩)]
     simp
  ·intro q
   have hex:(∃ d∈pre++[c],d.1=q∧aC q x=d.2.1)↔(∃ d∈pre,d.1=q∧aC q x=d.2.1)∨(c.1=q∧aC q x=c.2.1):=by
    constructor
    ·rintro⟨d,hd,k⟩
     rcases T6.1 hd with hd | hd
     ·exact .inl ⟨d,hd,k⟩
     ·rw[R7] at hd
      subst hd
      exact .inr k
    ·rintro(⟨d,hd,k⟩ | k)
     ·exact⟨d,List.mem_append_left _ hd,k⟩
     ·exact⟨c,by simp,k⟩
   unfold mC
   by_cases e1:aC c.1 x=c.2.1
   ·rw[P5 e1]
    show aC q (gP p.1 c.1 c.2.2.1)=_
    rw[Kz h1]
    by_cases eq:q=c.1
    ·rw[P5 eq,P5 (hex.2 (.inr ⟨eq.symm,by rw[eq]; exact e1⟩)),g2,eq]
    ·rw[P4 eq,h4]
     have:(∃ d∈pre++[c],d.1=q∧aC q x=d.2.1) ↔ ∃ d∈pre,d.1=q∧aC q x=d.2.1:=by
      rw[hex]
      exact⟨fun h=>h.elim id fun k=>S0 k.1.symm eq,.inl⟩
     simp only[this]
   ·have hp:(if aC c.1 x=c.2.1 then(gP p.1 c.1 c.2.2.1,p.2) else if aC c.1 x=c.2.2.1 then p else(p.1,p.2++[c.1])).1=p.1:=by
     rw[P4 e1]
     split <;> rfl
    rw[hp,h4]
    have:(∃ d∈pre++[c],d.1=q∧aC q x=d.2.1) ↔ ∃ d∈pre,d.1=q∧aC q x=d.2.1:=by
     rw[hex]
     refine⟨fun h=>h.elim id fun k=>S0 ?_ e1,.inl⟩
     obtain⟨k1,k2⟩:=k
     rw[k1]
     exact k2
    simp only[this]
theorem L8 {o x y:List af} (hx:em x) (hx0 : ∀ c∈x,c.2.1≠eS):(qi o y).foldl (mC x) (x,[])=(jq o x y,r9 o x y) :=
 Cb hx hx0 (qi o y) [] rfl (x,[]) hx hx0 rfl (fun q=>by rw[P4 (by rintro⟨_,h,_⟩; cases h)])
def ES (s:List af):Prop:=em s ∧ ∀ c∈s,bQ c.1=true∧ii c.2.1=true
theorem ET {s:List af} (h:bd s=true):ES s:=⟨(d8.1 h).1,(d8.1 h).2.1⟩
theorem Of {s:List af} (h:ES s) (hl:s.length≤120):bd s=true:=d8.2 ⟨h.1,h.2,hl⟩
theorem G3 {s:List af} {q:aw} (h:ES s) (k:aC q s≠eS):bQ q=true∧ii (aC q s)=true:=by
 rcases tC (q:=q) h.1 with⟨c,hc,rfl,hv⟩ | ⟨_,e⟩
 ·rw[←hv]
  exact h.2 c hc
 ·exact S0 e k
theorem L9 {a b:List af} (ha:bd a=true) (hb:bd b=true):(qi a b).length≤240:=by
 have:=M7 a b
 have:=d9 ha
 have:=d9 hb
 omega
noncomputable def EU (o x y:List af):List af×List aw×Bool :=
 if bd o=true∧bd x=true∧bd y=true then(if r9 o x y=[] then(if(jq o x y).length≤120 then(jq o x y,[],true) else([],[],false)) else([],r9 o x y,false)) else([],[],false)
theorem Nb {o x y:List af} (ho:ES o) (hx:ES x) (hy:ES y):ES (jq o x y):=by
 refine⟨yf _ _ _,fun c hc => ?_⟩
 obtain⟨_,h2,h3⟩:=pJ.1 hc
 rw[h2] at h3 ⊢
 unfold vL at h3 ⊢
 split
 ·rename_i e
  rw[P5 e] at h3
  exact G3 hy h3
 ·rename_i e
  rw[P4 e] at h3
  exact G3 hx h3
section
variable {α R:Type}
def qS (p:α→Bool):List α→Nat→Int
 | [],_ => -1
 | c :: l,n=>if p c=true then(n:Int) else qS p l (n+1)
theorem tG {p:α→Bool} {s:List α} {d:α} {P:Int→Option R} {F:Int→Option R} (hl:s.length≤1000000000000)
  (hP : ∀ j,P j=if decide (j < (s.length:Int))=true then ix s j d fun y=>if p y=true then F j else P (IntKind.i64.wrap (j+1)) else F (-1)) : ∀(ys pre:List α),s=pre++ys→P (pre.length:Int)=F (qS p ys pre.length)
 | [],pre,h=>by
  rw[hP,aq (bV h)]
  rfl
 | y :: ys,pre,h=>by
  have ih:=tG hl hP ys (pre++[y]) (aI h)
  rw[hP,ay (bo h),bk h,aH h (by omega),ih,P6,P3]
  show _=F (if p y=true then(pre.length:Int) else qS p ys (pre.length+1))
  by_cases hp:p y=true
  ·rw[P5 hp,P5 hp]
  ·rw[P4 hp,P4 hp]
theorem G4 {p:α→Bool} : ∀ {l:List α} {n:Nat},qS p l n ≠ -1 → ∃ pre x ys,l=pre++x :: ys∧p x=true∧(∀ c∈pre,p c=false)∧qS p l n=((n+pre.length:Nat):Int)
 | [],_,e=>S0 rfl e
 | x :: l,n,e=>by
  unfold qS at e ⊢
  by_cases hx:p x=true
  ·rw[P5 hx]
   exact⟨[],x,l,rfl,hx,(fun c h=>by cases h),rfl⟩
  ·rw[P4 hx] at e ⊢
   obtain⟨pre,z,ys,h1,h2,h3,h4⟩:=G4 e
   refine⟨x :: pre,z,ys,by rw[h1]; rfl,h2,?_,?_⟩
   ·intro c hc
    rcases R4.1 hc with rfl | hc
    ·simpa using hx
    ·exact h3 c hc
   ·rw[h4,Q1]
    congr 1
    omega
end
section
variable {s:List af} {r:aw} {x:P0} (hl:s.length≤1000000)
include hl
theorem jI : ∀(ys pre acc:List af),s=pre++ys→acc.length+ys.length≤1000010→eQ s x true (pre.length:Int) r.1 r.2.1 acc=some ((acc++jp r ys,()),())
 | [],pre,acc,h,ha=>by
  rw[lv,aq (bV h)]
  simp[jp]
 | y :: ys,pre,acc,h,ha=>by
  rw[Q1] at ha
  rw[lv,ay (bo h)]
  simp only[Bool.not_true,Bool.false_eq_true,if_false,bk h]
  show(if(!bO cD y.1 r)=true then _ else _)=_
  by_cases e:y.1=r
  ·rw[xY.mpr e,P4 (by decide),aH h (by omega),jI ys _ acc (aI h) (by omega),xh e]
  ·have e':bO cD y.1 r=false:=by rw[X3,ne_eq,xY]; exact e
   rw[e',P5 (by rfl),bv (by simp only[P3]; omega),aH h (by omega),jI ys _ _ (aI h) (by simp only[P6,P3]; omega),qQ e]
   simp
theorem vM : ∀(ys pre acc:List af),s=pre++ys→acc.length+ys.length≤1000000→eQ s x false (pre.length:Int) r.1 r.2.1 acc=some ((acc++nr r x ys,()),())
 | [],pre,acc,h,ha=>by
  rw[lv,aq (bV h),P5 (by rfl),bv (by simp only[P3,S4] at ha ⊢; omega)]
  rfl
 | y :: ys,pre,acc,h,ha=>by
  rw[Q1] at ha
  rw[lv,ay (bo h),P5 (by rfl)]
  simp only[bk h,qO,Option.bind_some]
  show(if(!bi y.1 r)=true then _ else _)=_
  unfold nr
  cases k:bi y.1 r with
  | true =>
   have e:=xZ k
   have e':bO cD y.1 r=false:=by rw[X3,ne_eq,xY]; exact e
   rw[P4 (by decide),P5 rfl]
   show(if(!bO cD y.1 r)=true then _ else _)=_
   rw[e',P5 (by rfl),bv (by simp only[P3]; omega),aH h (by omega),vM ys _ _ (aI h) (by simp only[P6,P3]; omega)]
   simp
  | false =>
   rw[P5 (by decide),P4 (by decide),bv (by simp only[P3]; omega)]
   show(if(!bO cD y.1 r)=true then _ else _)=_
   by_cases e:y.1=r
   ·rw[xY.mpr e,P4 (by decide),aH h (by omega),jI hl ys _ _ (aI h) (by simp only[P6,P3]; omega),xh e]
    simp
   ·have e':bO cD y.1 r=false:=by rw[X3,ne_eq,xY]; exact e
    rw[e',P5 (by rfl),bv (by simp only[P6,P3]; omega),aH h (by omega),jI hl ys _ _ (aI h) (by simp only[P6,P3]; omega),qQ e]
    simp
theorem Cc:zf s r x=some ((gP s r x,()),()):=by
 rw[JV]
 unfold gP
 by_cases hx:x=eS
 ·subst hx
  rw[P5 rfl,show(P2 eS == P2 (⟨#[]⟩:P0))=decide (eS=eS) from kw,R5 rfl]
  exact jI hl s [] [] rfl (by simp only[S4]; omega)
 ·rw[P4 hx]
  have:(P2 x == P2 (⟨#[]⟩:P0))=false:=by
   rw[show(P2 x == P2 (⟨#[]⟩:P0))=decide (x=eS) from kw,S3 hx]
  rw[this]
  exact vM hl s [] [] rfl (by simp only[S4]; omega)
end
section
variable {α:Type}
theorem yg {p:α→Bool} : ∀(l:List α) (n:Nat),decide (qS p l n≥0)=l.any p
 | [],n=>by
  show decide ((-1:Int)≥0)=false
  decide
 | c :: l,n=>by
  unfold qS
  rw[List.any_cons]
  by_cases h:p c=true
  ·rw[P5 h,h,Bool.true_or]
   exact R5 (by omega)
  ·rw[P4 h,yg l (n+1)]
   simp[h]
end
section
variable {α:Type} [DecidableEq α]
def gR:List α→List α→List α
 | t,[]=>t
 | t,k :: ks=>if k∈t then gR t ks else gR (t++[k]) ks
theorem KB (t:List α) (k:α) (ks:List α):gR t (k :: ks)=if k∈t then gR t ks else gR (t++[k]) ks:=rfl
theorem yh : ∀(ks t:List α),∃ ex,gR t ks=t++ex
 | [],t=>⟨[],by simp[gR]⟩
 | k :: ks,t=>by
  unfold gR
  split
  ·exact yh ks t
  ·obtain⟨ex,h⟩:=yh ks (t++[k])
   exact⟨k :: ex,by rw[h]; simp⟩
theorem kj : ∀(ks t:List α) (j:α),j∈gR t ks↔j∈t∨j∈ks
 | [],t,j=>by simp[gR]
 | k :: ks,t,j=>by
  unfold gR
  by_cases hk:k∈t
  ·rw[P5 hk,kj,R4]
   constructor
   ·rintro(e | e)
    ·exact .inl e
    ·exact .inr (.inr e)
   ·rintro(e | e | e)
    ·exact .inl e
    ·rw[e]
     exact .inl hk
    ·exact .inr e
  ·rw[P4 hk,kj,T6,R7,R4,or_assoc]
theorem n5 : ∀(ks t:List α),t.Nodup→(gR t ks).Nodup
 | [],t,h=>h
 | k :: ks,t,h=>by
  unfold gR
  by_cases hk:k∈t
  ·rw[P5 hk]
   exact n5 ks t h
  ·rw[P4 hk]
   refine n5 ks _ ?_
   rw[List.nodup_append]
   refine⟨h,by simp,fun a ha b hb => ?_⟩
   rw[R7.1 hb]
   exact fun e=>hk (e ▸ ha)
theorem m6 : ∀(l m:List α),l.Nodup→(∀ x∈l,x∈m)→l.length≤m.length
 | [],m,_,_=>Y6 _
 | a :: l,m,hd,h=>by
  have hd:=List.nodup_cons.1 hd
  have ha:=h a (by simp)
  have h1:=m6 l (m.erase a) hd.2 (fun x hx=>(List.mem_erase_of_ne (a:=x) (b:=a) (fun e:x=a=>hd.1 (e ▸ hx))).2 (h x (Q5 _ hx)))
  rw[List.length_erase_of_mem ha] at h1
  have:1≤m.length:=List.length_pos_of_mem ha
  rw[Q1]
  omega
end
def lC (up:Int→List Int):Nat→Nat→List Int→List Int
 | 0,_,out=>out
 | n+1,k,out=>match out[k]? with
  | none=>out
  | some x=>lC up n (k+1) (gR out (up x))
section
variable {up:Int→List Int} {U:List Int} (hU : ∀ x∈U,∀ y∈up x,y∈U)
include hU
theorem EV : ∀(n k:Nat) (out:List Int),out.Nodup→(∀ x∈out,x∈U)→U.length≤k+n→(∀ i x,i < k→out[i]? = some x → ∀ y∈up x,y∈out) →
  (lC up n k out).Nodup∧(∀ x∈lC up n k out,x∈U)∧(∀ x∈out,x∈lC up n k out) ∧ ∀ x∈lC up n k out,∀ y∈up x,y∈lC up n k out
 | 0,k,out,hd,hs,hn,hc=>by
  have hl:=m6 _ _ hd hs
  refine⟨hd,hs,fun x h=>h,fun x hx => ?_⟩
  obtain⟨i,hi⟩:=bw_ (show x∈out from hx)
  have:=(Q9.1 hi).1
  exact hc i x (by omega) hi
 | n+1,k,out,hd,hs,hn,hc=>by
  unfold lC
  cases hk:out[k]? with
  | none =>
   have hl:out.length≤k:=List.getElem?_eq_none_iff.1 hk
   refine⟨hd,hs,fun x h=>h,fun x hx => ?_⟩
   obtain⟨i,hi⟩:=bw_ (show x∈out from hx)
   have:=(Q9.1 hi).1
   exact hc i x (by omega) hi
  | some x =>
   have hxU:x∈U:=hs x (T2 hk)
   obtain⟨ex,e⟩:=yh (up x) out
   have hlen:=(Q9.1 hk).1
   obtain⟨r1,r2,r3,r4⟩:=EV n (k+1) (gR out (up x)) (n5 _ _ hd) (fun z hz=>((kj _ _ _).1 hz).elim (hs z) (hU x hxU z)) (by omega) (fun i z hi hz y hy=>by
    have hz':out[i]? = some z:=by
     rw[e,List.getElem?_append_left (by omega)] at hz
     exact hz
    refine(kj _ _ _).2 ?_
    by_cases hik:i=k
    ·subst hik
     rw[hk] at hz'
     cases hz'
     exact .inr hy
    ·exact .inl (hc i z (by omega) hz' y hy))
   exact⟨r1,r2,fun z hz=>r3 z ((kj _ _ _).2 (.inl hz)),r4⟩
end
theorem EW {up:Int→List Int} {Q:Int→Prop} (hQ : ∀ x,Q x → ∀ y∈up x,Q y) : ∀(n k:Nat) (out:List Int),(∀ x∈out,Q x) → ∀ x∈lC up n k out,Q x
 | 0,k,out,h=>h
 | n+1,k,out,h=>by
  unfold lC
  cases hk:out[k]? with
  | none=>exact h
  | some x=>exact EW hQ n (k+1) _ fun z hz=>((kj _ _ _).1 hz).elim (h z) (hQ x (h x (T2 hk)) z)
theorem Ma {l m:List Int} (hl:l.Pairwise (· < ·)) (hm:m.Pairwise (· < ·)) (h : ∀ x,x∈l↔x∈m):l=m :=
 vH (lt:=fun a b=>decide (a < b)) (fun x=>S3 (Int.lt_irrefl x)) (fun x y z a b=>R5 (Int.lt_trans (U8 a) (U8 b)))
  (hl.imp fun h=>R5 h) (hm.imp fun h=>R5 h) h
def cS (y:List Int) (x:List Int) (o:Int):Int:=x.foldl (fun o z=>if z∈y then z else o) o
theorem kI {y:List Int} : ∀(x:List Int) (o:Int),x.Pairwise (· < ·)→(∀ z∈x,o < z)→(cS y x o=o ∧ ∀ z∈x,z ∉ y)∨(cS y x o∈x∧cS y x o∈y ∧ ∀ z∈x,z∈y→z≤cS y x o)
 | [],o,_,_ => .inl ⟨rfl,fun z hz=>(List.not_mem_nil hz).elim⟩
 | a :: x,o,hp,ho=>by
  have hp':=S5.1 hp
  have e:cS y (a :: x) o=cS y x (if a∈y then a else o):=rfl
  rw[e]
  by_cases ha:a∈y
  ·rw[P5 ha]
   rcases kI x a hp'.2 hp'.1 with⟨h1,h2⟩ | ⟨h1,h2,h3⟩
   ·refine .inr ⟨by rw[h1]; simp,by rw[h1]; exact ha,fun z hz hzy => ?_⟩
    rw[h1]
    rcases R4.1 hz with e | hz
    ·omega
    ·exact S0 hzy (h2 z hz)
   ·refine .inr ⟨Q5 _ h1,h2,fun z hz hzy => ?_⟩
    rcases R4.1 hz with e | hz
    ·have:=hp'.1 _ h1
     omega
    ·exact h3 z hz hzy
  ·rw[P4 ha]
   rcases kI x o hp'.2 (fun z hz=>ho z (Q5 _ hz)) with⟨h1,h2⟩ | ⟨h1,h2,h3⟩
   ·refine .inl ⟨h1,fun z hz => ?_⟩
    rcases R4.1 hz with e | hz
    ·rw[e]
     exact ha
    ·exact h2 z hz
   ·refine .inr ⟨Q5 _ h1,h2,fun z hz hzy => ?_⟩
    rcases R4.1 hz with e | hz
    ·rw[e] at hzy
     exact S0 hzy ha
    ·exact h3 z hz hzy
theorem KC {x y:List Int} {o:Int} (hx:x.Pairwise (· < ·)) (hy:y.Pairwise (· < ·)) (hox : ∀ z∈x,o < z) (hoy : ∀ z∈y,o < z):cS y x o=cS x y o:=by
 rcases kI (y:=y) x o hx hox with⟨a1,a2⟩ | ⟨a1,a2,a3⟩
 ·rcases kI (y:=x) y o hy hoy with⟨b1,b2⟩ | ⟨b1,b2,b3⟩
  ·rw[a1,b1]
  ·exact S0 b1 (a2 _ b2)
 ·rcases kI (y:=x) y o hy hoy with⟨b1,b2⟩ | ⟨b1,b2,b3⟩
  ·exact S0 a1 (b2 _ a2)
  ·have h1:=a3 _ b2 b1
   have h2:=b3 _ a2 a1
   omega
theorem Nc {x y:List Int} {o b:Int} (hx:x.Pairwise (· < ·)) (hox : ∀ z∈x,o < z) (hb:b∈x) (hby:b∈y) (hm : ∀ z∈y,z≤b):cS y x o=b:=by
 rcases kI (y:=y) x o hx hox with⟨a1,a2⟩ | ⟨a1,a2,a3⟩
 ·exact S0 hby (a2 _ hb)
 ·have h1:=a3 _ hb hby
  have h2:=hm _ a2
  omega
theorem yi {y:List Int} : ∀(x:List Int) (o:Int),x.Pairwise (· < ·)→(∀ z∈x,o < z)→x.foldl (fun o z=>if z∈y∧o < z then z else o) o=cS y x o
 | [],o,_,_=>rfl
 | a :: x,o,hp,ho=>by
  have hp':=S5.1 hp
  have h1:=ho a (by simp)
  rw[Z5]
  have e:cS y (a :: x) o=cS y x (if a∈y then a else o):=rfl
  rw[e]
  by_cases ha:a∈y
  ·rw[P5 ⟨ha,h1⟩,P5 ha]
   exact yi x a hp'.2 hp'.1
  ·rw[P4 (fun h=>ha h.1),P4 ha]
   exact yi x o hp'.2 fun z hz=>ho z (Q5 _ hz)
section
variable {α R:Type} {ok:α→Bool} {lt:α→α→Bool}
def uf (ok:α→Bool) (lt:α→α→Bool):Option α→List α→Bool
 | _,[]=>true
 | p,x :: l=>(ok x && (match p with | none=>true | some q=>lt q x)) && uf ok lt (some x) l
theorem EX {s:List α} {P:Int→R} {T F:R} (hE:P (s.length:Int)=T)
  (hP : ∀ pre y ys,s=pre++y :: ys→P (pre.length:Int)=if(ok y && (match pre.getLast? with | none=>true | some q=>lt q y))=true then P ((pre++[y]).length:Int) else F) :
  ∀ ys pre:List α,s=pre++ys→P (pre.length:Int)=if uf ok lt pre.getLast? ys=true then T else F
 | [],pre,h=>by
  have e:pre=s:=by rw[h]; simp
  rw[e,hE]
  rfl
 | y :: ys,pre,h=>by
  have ih:=EX hE hP ys (pre++[y]) (by rw[h]; simp)
  rw[show(pre++[y]).getLast? = some y by simp] at ih
  have e:uf ok lt pre.getLast? (y :: ys)=((ok y && (match pre.getLast? with | none=>true | some q=>lt q y)) && uf ok lt (some y) ys):=rfl
  rw[hP pre y ys h,ih,e]
  cases (ok y && (match pre.getLast? with | none=>true | some q=>lt q y)) with
  | false=>rfl
  | true =>
   rw[P5 rfl]
   by_cases hc:uf ok lt (some y) ys=true
   ·rw[P5 hc,P5 (by rw[hc]; rfl)]
   ·rw[P4 hc,P4 (by rw[Bool.true_and]; exact hc)]
theorem EY {q:List α} {z:α}:(q++[z]).getLast? = some z:=by simp
theorem og {s:List α} {P:Int→R} {T F:R} (hE:P (s.length:Int)=T) (h0 : ∀ y ys,s=y :: ys→P 0=if ok y=true then P 1 else F)
  (h1 : ∀ q z y ys,s=(q++[z])++y :: ys→P ((q++[z]).length:Int)=if(ok y && lt z y)=true then P (((q++[z])++[y]).length:Int) else F):P 0=if uf ok lt none s=true then T else F:=by
 refine EX hE (fun pre y ys h => ?_) s [] rfl
 rcases List.eq_nil_or_concat pre with hp | ⟨q,z,hp⟩
 ·subst hp
  have:=h0 y ys h
  by_cases hk:ok y=true
  ·rw[P5 hk] at this
   rw[P5 (by rw[hk]; rfl)]
   exact this
  ·rw[P4 hk] at this
   rw[P4 (fun e=>hk (by simpa using e))]
   exact this
 ·rw[List.concat_eq_append] at hp
  subst hp
  have:=h1 q z y ys h
  by_cases hk:(ok y && lt z y)=true
  ·rw[P5 hk] at this
   rw[P5 (by rw[EY]; exact hk)]
   exact this
  ·rw[P4 hk] at this
   rw[P4 (fun e=>hk (by rw[EY] at e; exact e))]
   exact this
theorem wB (ht : ∀ a b c,lt a b=true→lt b c=true→lt a c=true) : ∀ {l:List α} {p:Option α},uf ok lt p l=true↔(∀ x∈l,ok x=true)∧l.Pairwise (fun a b=>lt a b=true) ∧ ∀ q,p=some q → ∀ x∈l,lt q x=true
 | [],p=>by simp[uf]
 | y :: l,p=>by
  have ih:=wB ht (l:=l) (p:=some y)
  unfold uf
  rw[P8,P8,ih]
  constructor
  ·rintro⟨⟨h1,h2⟩,h3,h4,h5⟩
   refine⟨fun x hx => ?_,S5.2 ⟨fun x hx=>h5 y rfl x hx,h4⟩,fun q hq x hx => ?_⟩
   ·rcases R4.1 hx with rfl | hx
    ·exact h1
    ·exact h3 x hx
   ·subst hq
    rcases R4.1 hx with rfl | hx
    ·exact h2
    ·exact ht _ _ _ h2 (h5 y rfl x hx)
  ·rintro⟨h1,h2,h3⟩
   obtain⟨h4,h5⟩:=S5.1 h2
   refine⟨⟨h1 y (by simp),?_⟩,fun x hx=>h1 x (Q5 _ hx),h5,fun q hq x hx => ?_⟩
   ·cases p with
    | none=>rfl
    | some q=>exact h3 q rfl y (by simp)
   ·cases hq
    exact h4 x hx
end
def m7 (x:P0):Bool:=decide (1≤x.size) && (decide (x.size≤12) && (lb x).all fun b=>decide (97≤b.toNat) && decide (b.toNat≤122))
def gq (a b:P0):Bool:=Op.bytesLess a.toList b.toList
theorem KD : ∀ l:List UInt8,Op.bytesLess l l=false
 | []=>rfl
 | a :: l=>by simp[Op.bytesLess,KD l]
theorem EZ : ∀ {a b c:List UInt8},Op.bytesLess a b=true→Op.bytesLess b c=true→Op.bytesLess a c=true
 | [],[],_,h,_=>by cases h
 | [],_ :: _,[],_,k=>by cases k
 | [],_ :: _,_ :: _,_,_=>rfl
 | _ :: _,[],_,h,_=>by cases h
 | _ :: _,_ :: _,[],_,k=>by cases k
 | x :: a,y :: b,z :: c,h,k=>by
  have ih := @EZ a b c
  simp only[Op.bytesLess,Z6,P8,Q0,beq_iff_eq] at h k ⊢
  rcases h with h | ⟨h1,h2⟩
  ·rcases k with k | ⟨k1,k2⟩
   ·exact .inl (UInt8.lt_trans h k)
   ·exact .inl (k1 ▸ h)
  ·rcases k with k | ⟨k1,k2⟩
   ·exact .inl (h1 ▸ k)
   ·exact .inr ⟨h1.trans k1,ih h2 k2⟩
theorem KE : ∀ {a b:List UInt8},Op.bytesLess a b=false→Op.bytesLess b a=false→a=b
 | [],[],_,_=>rfl
 | [],_ :: _,h,_=>by cases h
 | _ :: _,[],_,k=>by cases k
 | x :: a,y :: b,h,k=>by
  have ih := @KE a b
  simp only[Op.bytesLess,au_,Bool.and_eq_false_iff,decide_eq_false_iff_not,beq_eq_false_iff_ne] at h k
  have e:x=y:=UInt8.le_antisymm (UInt8.not_lt.1 k.1) (UInt8.not_lt.1 h.1)
  subst e
  rw[ih (h.2.resolve_left fun h=>h rfl) (k.2.resolve_left fun h=>h rfl)]
theorem G5 (a:P0):gq a a=false:=KD _
theorem vO {a b c:P0} (h:gq a b=true) (k:gq b c=true):gq a c=true:=EZ h k
def cc (vs:List ak) (id:Int):Bool:=vs.any fun v=>v.1 == id
def pK (vs:List ak) (id:Int):Int:=qS (fun v=>v.1 == id) vs 0
def pL (vs:List ak) (id:Int) (l:List Int):Bool:=uf (fun u=>decide (u < id) && cc vs u) (fun a b=>decide (a < b)) none l
noncomputable def vP (vs:List ak) (nx:Int) (v:ak):Bool:=ce v.1 1 (nx - 1) && (decide (v.2.1.length≤2) && (pL vs v.1 v.2.1 && bd v.2.2.1))
noncomputable def Ba (vs:List ak) (nx:Int):Bool:=uf (vP vs nx) (fun a b=>decide (a.1 < b.1)) none vs
def qU (vs:List ak) (bs:List an):Bool:=uf (fun b=>m7 b.1 && cc vs b.2.1) (fun a b=>gq a.1 b.1) none bs
noncomputable def fR (d:aV):Bool:=ce d.1 2 1000000000 && (ce (d.2.1.length:Int) 1 40 && (ce (d.2.2.1.length:Int) 1 8 && (Ba d.2.1 d.1 && qU d.2.1 d.2.2.1)))
theorem eG {vs:List ak} {id:Int}:cc vs id=true↔id∈vs.map (·.1):=by
 unfold cc
 rw[az_,Y5]
 constructor
 ·rintro⟨v,h1,h2⟩
  exact⟨v,h1,by simpa using h2⟩
 ·rintro⟨v,h1,h2⟩
  exact⟨v,h1,by simpa using h2⟩
theorem E0 {vs:List ak} {id:Int}:decide (pK vs id≥0)=cc vs id:=yg vs 0
theorem Mb {vs:List ak} {id:Int} {l:List Int}:pL vs id l=true↔(∀ u∈l,u < id∧cc vs u=true)∧l.Pairwise (· < ·):=by
 unfold pL
 rw[wB (lt:=fun a b:Int=>decide (a < b)) (fun a b c h k=>R5 (Int.lt_trans (U8 h) (U8 k)))]
 simp only[P8,Q0]
 constructor
 ·rintro⟨h1,h2,_⟩
  exact⟨h1,h2⟩
 ·rintro⟨h1,h2⟩
  exact⟨h1,h2,fun q hq=>by cases hq⟩
structure ch (d:aV):Prop where
 nx:2≤d.1∧d.1≤1000000000
 vl:1≤d.2.1.length∧d.2.1.length≤40
 bl:1≤d.2.2.1.length∧d.2.2.1.length≤8
 id : ∀ v∈d.2.1,1≤v.1∧v.1≤d.1 - 1
 up : ∀ v∈d.2.1,v.2.1.length≤2∧(∀ u∈v.2.1,u < v.1∧cc d.2.1 u=true)∧v.2.1.Pairwise (· < ·)
 sh : ∀ v∈d.2.1,bd v.2.2.1=true
 vr:d.2.1.Pairwise fun a b=>a.1 < b.1
 br : ∀ b∈d.2.2.1,m7 b.1=true∧cc d.2.1 b.2.1=true
 bs:d.2.2.1.Pairwise fun a b=>gq a.1 b.1=true
theorem cm {d:aV}:fR d=true↔ch d:=by
 unfold fR Ba qU
 simp only[P8]
 rw[wB (lt:=fun a b:ak=>decide (a.1 < b.1)) (fun a b c h k=>R5 (Int.lt_trans (U8 h) (U8 k))),wB (lt:=fun a b:an=>gq a.1 b.1) (fun a b c h k=>vO h k),bK,bK,bK]
 simp only[vP,P8,Q0,bK,Mb]
 constructor
 ·rintro⟨h1,h2,h3,⟨h4,h5,_⟩,h6,h7,_⟩
  exact⟨h1,by omega,by omega,fun v hv=>(h4 v hv).1,fun v hv=>⟨(h4 v hv).2.1,(h4 v hv).2.2.1⟩,fun v hv=>(h4 v hv).2.2.2,h5,h6,h7⟩
 ·intro h
  have h2:=h.vl
  have h3:=h.bl
  exact⟨h.nx,by omega,by omega,⟨fun v hv=>⟨h.id v hv,(h.up v hv).1,(h.up v hv).2,h.sh v hv⟩,h.vr,fun q hq=>by cases hq⟩,h.br,h.bs,fun q hq=>by cases hq⟩
def vQ (vs:List ak) (x:Int):List Int:=match vs.find? (fun v=>v.1 == x) with
 | some v=>v.2.1
 | none=>[]
def cl (vs:List ak):List Int:=vs.map (·.1)
theorem G6 {vs:List ak} (h:vs.Pairwise fun a b=>a.1 < b.1) {v:ak} (hv:v∈vs):vs.find? (fun w=>w.1 == v.1)=some v:=by
 induction vs with
 | nil=>cases hv
 | cons w vs ih =>
  obtain⟨h1,h2⟩:=S5.1 h
  rw[List.find?_cons]
  rcases R4.1 hv with rfl | hv
  ·simp
  ·have:=h1 v hv
   have hne:(w.1 == v.1)=false:=by
    rw[beq_eq_false_iff_ne]
    omega
   rw[hne]
   exact ih h2 hv
theorem E1 {vs:List ak} (h:vs.Pairwise fun a b=>a.1 < b.1) {v:ak} (hv:v∈vs):vQ vs v.1=v.2.1:=by
 unfold vQ
 rw[G6 h hv]
theorem ch.closed {d:aV} (h:ch d) : ∀ x∈cl d.2.1,∀ y∈vQ d.2.1 x,y∈cl d.2.1:=by
 intro x hx y hy
 obtain⟨v,hv,rfl⟩:=Y5.1 hx
 rw[E1 h.vr hv] at hy
 exact eG.1 ((h.up v hv).2.1 y hy).2
theorem ch.rise {d:aV} (h:ch d):(cl d.2.1).Pairwise (· < ·):=by
 unfold cl
 rw[Z2]
 exact h.vr
theorem ch.below {d:aV} (h:ch d) : ∀ x∈cl d.2.1,∀ y∈vQ d.2.1 x,y < x:=by
 intro x hx y hy
 obtain⟨v,hv,rfl⟩:=Y5.1 hx
 rw[E1 h.vr hv] at hy
 exact((h.up v hv).2.1 y hy).1
def nu (vs:List ak) (id:Int):List Int:=lC (vQ vs) (vs.length+1) 0 [id]
def cE (vs:List ak) (id:Int):List Int:=(cl vs).filter fun x=>decide (x∈nu vs id)
section
variable {d:aV} (h:ch d) {a:Int} (ha:a∈cl d.2.1)
include h ha
theorem wC:(nu d.2.1 a).Nodup∧(∀ x∈nu d.2.1 a,x∈cl d.2.1)∧a∈nu d.2.1 a ∧ ∀ x∈nu d.2.1 a,∀ y∈vQ d.2.1 x,y∈nu d.2.1 a:=by
 obtain⟨h1,h2,h3,h4⟩:=EV h.closed (d.2.1.length+1) 0 [a] (by simp) (fun x hx=>by rw[R7.1 hx]; exact ha) (by unfold cl; rw[W1]; omega) (fun i x hi=>by omega)
 exact⟨h1,h2,h3 a (by simp),h4⟩
theorem Nd : ∀ x∈nu d.2.1 a,x∈cl d.2.1∧x≤a:=by
 refine EW (Q:=fun x=>x∈cl d.2.1∧x≤a) (fun x hx y hy=>⟨h.closed x hx.1 y hy,?_⟩) _ _ _ (fun x hx=>by rw[R7.1 hx]; exact⟨ha,Int.le_refl _⟩)
 have:=h.below x hx.1 y hy
 have:=hx.2
 omega
theorem tH (x:Int):x∈cE d.2.1 a↔x∈nu d.2.1 a:=by
 unfold cE
 rw[ai_,Q0]
 exact⟨fun h=>h.2,fun hx=>⟨(wC h ha).2.1 x hx,hx⟩⟩
theorem KF:(cE d.2.1 a).Pairwise (· < ·):=aj_ _ h.rise
theorem Mc:(nu d.2.1 a).mergeSort (fun x y=>decide (x≤y))=cE d.2.1 a:=by
 have hs:=List.pairwise_mergeSort (le:=fun x y:Int=>decide (x≤y)) (fun a b c h k=>by simp only[Q0] at *; omega) (fun a b=>by simp only[Z6,Q0]; omega) (nu d.2.1 a)
 have hp:=List.mergeSort_perm (nu d.2.1 a) (fun x y=>decide (x≤y))
 have hn:((nu d.2.1 a).mergeSort (fun x y=>decide (x≤y))).Nodup:=hp.nodup_iff.2 (wC h ha).1
 refine Ma ?_ (KF h ha) fun x => ?_
 ·refine(hs.and hn).imp fun {x y} hxy => ?_
  have h1:=U8 hxy.1
  have h2:=hxy.2
  omega
 ·rw[hp.mem_iff,tH h ha]
end
noncomputable def tI (d:aV) (a b:Int):Int:=if fR d=true∧cc d.2.1 a=true∧cc d.2.1 b=true then cS (cE d.2.1 b) (cE d.2.1 a) 0 else 0
def bT (bs:List an) (n:P0):Int:=match bs.find? (fun b=>decide (b.1=n)) with
 | some b=>b.2.1
 | none=>0
def f0 (bs:List an) (n:P0):Bool:=bs.any fun b=>decide (b.1=n)
def gT (bs:List an) (n:P0) (h:Int):List an:=bs.map fun b=>if b.1=n then(b.1,h,()) else b
def eH (vs:List ak) (x:Int):List af:=match vs.find? (fun v=>v.1 == x) with
 | some v=>v.2.2.1
 | none=>[]
def IT (d:aV) (n:P0) (us:List Int) (s:List af):aV:=(d.1+1,d.2.1++[(d.1,us,s,())],gT d.2.2.1 n d.1,())
def tJ (d:aV):Bool:=decide (d.2.1.length=40) || decide (d.1=1000000000)
def Md:aV:=(0,[],[],())
theorem Cd {bs:List an} {n:P0}:f0 bs n=(bs.find? (fun b=>decide (b.1=n))).isSome:=by
 unfold f0
 rw[Bool.eq_iff_iff,az_,List.find?_isSome]
theorem Nf {bs:List an} {n:P0} (h:f0 bs n=true) : ∃ b∈bs,b.1=n∧bT bs n=b.2.1:=by
 rw[Cd] at h
 obtain⟨b,hb⟩:=Option.isSome_iff_exists.1 h
 refine⟨b,av_ hb,?_,?_⟩
 ·have:=List.find?_some hb
  exact U8 this
 ·unfold bT
  rw[hb]
theorem Ng {bs:List an} {n:P0} (h:f0 bs n=false):bT bs n=0:=by
 rw[Cd] at h
 unfold bT
 cases hf:bs.find? (fun b=>decide (b.1=n)) with
 | none=>rfl
 | some b=>rw[hf] at h; cases h
theorem E2 {bs:List an} {n:P0} {h:Int}:(gT bs n h).map (·.1)=bs.map (·.1):=by
 unfold gT
 rw[List.map_map]
 refine List.map_congr_left fun b _ => ?_
 show(if b.1=n then(b.1,h,()) else b:an).1=b.1
 split <;> rfl
theorem E3 {bs:List an} {n:P0} {h:Int} {b:an} (hb:b∈gT bs n h):(∃ c∈bs,c.1=b.1)∧(b.2.1=h∨b∈bs):=by
 unfold gT at hb
 obtain⟨c,hc,rfl⟩:=Y5.1 hb
 by_cases e:c.1=n
 ·rw[P5 e]
  exact⟨⟨c,hc,rfl⟩,.inl rfl⟩
 ·rw[P4 e]
  exact⟨⟨c,hc,rfl⟩,.inr hc⟩
section
variable {d:aV} (h:ch d)
include h
theorem ch.head {n:P0} (hn:f0 d.2.2.1 n=true):bT d.2.2.1 n∈cl d.2.1∧1≤bT d.2.2.1 n:=by
 obtain⟨b,hb,_,e⟩:=Nf hn
 rw[e]
 have:=eG.1 (h.br b hb).2
 obtain⟨v,hv,hh⟩:=Y5.1 this
 exact⟨this,by rw[←hh]; exact(h.id v hv).1⟩
theorem ch.hd0 (n:P0):bT d.2.2.1 n=0↔f0 d.2.2.1 n=false:=by
 cases hn:f0 d.2.2.1 n with
 | false=>simp[Ng hn]
 | true =>
  have:=(h.head hn).2
  simp
  omega
theorem ch.moved {n:P0} {x:Int} (hx:x∈cl d.2.1):ch (d.1,d.2.1,gT d.2.2.1 n x,()):=by
 have hl:(gT d.2.2.1 n x).length=d.2.2.1.length:=by
  unfold gT
  rw[W1]
 refine⟨h.nx,h.vl,by show 1≤(gT d.2.2.1 n x).length∧(gT d.2.2.1 n x).length≤8; rw[hl]; exact h.bl,h.id,h.up,h.sh,h.vr,fun b hb => ?_,?_⟩
 ·obtain⟨⟨c,hc,e⟩,h2⟩:=E3 hb
  refine⟨by rw[←e]; exact(h.br c hc).1,?_⟩
  rcases h2 with h2 | h2
  ·rw[h2]
   exact eG.2 hx
  ·exact(h.br b h2).2
 ·have:=h.bs
  have h1:(d.2.2.1.map (·.1)).Pairwise fun a b=>gq a b=true:=Z2.2 this
  rw[←E2 (n:=n) (h:=x)] at h1
  exact Z2.1 h1
theorem ch.new_id:d.1 ∉ cl d.2.1:=by
 intro hd
 obtain⟨v,hv,e⟩:=Y5.1 hd
 have:=(h.id v hv).2
 omega
theorem yj {vs:List ak} {v:ak} {x:Int}:cc (vs++[v]) x=(cc vs x || v.1 == x):=by
 unfold cc
 rw[List.any_append]
 simp
theorem ch.grown {n:P0} {us:List Int} {s:List af} (hf:tJ d=false) (hu:us.length≤2) (hus : ∀ u∈us,u∈cl d.2.1) (hur:us.Pairwise (· < ·)) (hs:bd s=true):ch (IT d n us s):=by
 unfold tJ at hf
 rw[au_,decide_eq_false_iff_not,decide_eq_false_iff_not] at hf
 have h1:=h.nx
 have h2:=h.vl
 have hlt : ∀ x∈cl d.2.1,x < d.1:=fun x hx=>by
  obtain⟨v,hv,rfl⟩:=Y5.1 hx
  have:=(h.id v hv).2
  omega
 have hl:(gT d.2.2.1 n d.1).length=d.2.2.1.length:=by
  unfold gT
  rw[W1]
 refine⟨by show 2≤d.1+1∧d.1+1≤1000000000; omega,by show 1≤(d.2.1++[_]).length∧(d.2.1++[_]).length≤40; rw[P6,P3]; omega,by show 1≤(gT d.2.2.1 n d.1).length∧(gT d.2.2.1 n d.1).length≤8; rw[hl]; exact h.bl,fun v hv => ?_,fun v hv => ?_,fun v hv => ?_,?_,fun b hb => ?_,?_⟩
 ·show 1≤v.1∧v.1≤d.1+1 - 1
  rcases T6.1 hv with hv | hv
  ·have:=h.id v hv
   omega
  ·rw[R7.1 hv]
   show 1≤d.1∧d.1≤d.1+1 - 1
   omega
 ·rcases T6.1 hv with hv | hv
  ·obtain⟨k1,k2,k3⟩:=h.up v hv
   refine⟨k1,fun u hu=>⟨(k2 u hu).1,?_⟩,k3⟩
   show cc (d.2.1++[_]) u=true
   rw[yj h,(k2 u hu).2,Bool.true_or]
  ·rw[R7.1 hv]
   refine⟨hu,fun u hu'=>⟨hlt u (hus u hu'),?_⟩,hur⟩
   show cc (d.2.1++[_]) u=true
   rw[yj h,eG.2 (hus u hu'),Bool.true_or]
 ·rcases T6.1 hv with hv | hv
  ·exact h.sh v hv
  ·rw[R7.1 hv]
   exact hs
 ·show(d.2.1++[(d.1,us,s,())]).Pairwise fun a b=>a.1 < b.1
  refine List.pairwise_append.2 ⟨h.vr,Y7 _ _,fun a ha b hb => ?_⟩
  rw[R7.1 hb]
  exact hlt _ (Y5.2 ⟨a,ha,rfl⟩)
 ·obtain⟨⟨c,hc,e⟩,k⟩:=E3 hb
  refine⟨by rw[←e]; exact(h.br c hc).1,?_⟩
  show cc (d.2.1++[_]) b.2.1=true
  rw[yj h]
  rcases k with k | k
  ·rw[k]
   simp
  ·rw[(h.br b k).2,Bool.true_or]
 ·have h1:(d.2.2.1.map (·.1)).Pairwise fun a b=>gq a b=true:=Z2.2 h.bs
  rw[←E2 (n:=n) (h:=d.1)] at h1
  exact Z2.1 h1
end
noncomputable def G7 (d:aV) (n:P0) (s:List af):aV×Int×Int :=
 if fR d=true then(if f0 d.2.2.1 n=true then(if bd s=true then(if tJ d=true then(d,0,5) else(IT d n [bT d.2.2.1 n] s,d.1,0)) else(d,0,4)) else(d,0,2)) else(Md,0,1)
theorem Og {d:aV} (h:ch d) (n:P0) (s:List af):ch (G7 d n s).1:=by
 unfold G7
 rw[P5 (cm.2 h)]
 by_cases h1:f0 d.2.2.1 n=true
 ·rw[P5 h1]
  by_cases h2:bd s=true
  ·rw[P5 h2]
   by_cases h3:tJ d=true
   ·rw[P5 h3]
    exact h
   ·rw[P4 h3]
    exact h.grown (by simpa using h3) (by simp) (fun u hu=>by rw[R7.1 hu]; exact(h.head h1).1) (Y7 _ _) h2
  ·rw[P4 h2]
   exact h
 ·rw[P4 h1]
  exact h
def mg (n:P0) (x:Int):List an→List an
 | []=>[(n,x,())]
 | b :: l=>if gq n b.1=true then(n,x,()) :: b :: l else b :: mg n x l
noncomputable def KG (d:aV) (n:P0) (x:Int):aV×Int :=
 if fR d=true then(if m7 n=false∨f0 d.2.2.1 n=true then(d,7) else if cc d.2.1 x=false then(d,3) else if d.2.2.1.length=8 then(d,5) else((d.1,d.2.1,mg n x d.2.2.1,()),0)) else(Md,1)
theorem yk {n:P0} {x:Int} {b:an} : ∀ {l:List an},b∈mg n x l↔b=(n,x,())∨b∈l
 | []=>by simp[mg]
 | c :: l=>by
  unfold mg
  split
  ·simp
  ·rw[R4,yk,R4]
   constructor
   ·rintro(h | h | h)
    ·exact .inr (.inl h)
    ·exact .inl h
    ·exact .inr (.inr h)
   ·rintro(h | h | h)
    ·exact .inr (.inl h)
    ·exact .inl h
    ·exact .inr (.inr h)
theorem E4 {n:P0} {x:Int} : ∀ {l:List an},(mg n x l).length=l.length+1
 | []=>rfl
 | c :: l=>by
  unfold mg
  split
  ·rfl
  ·rw[Q1,E4]
   rfl
theorem G8 {a b:P0} (h:gq a b=false) (hne:b≠a):gq b a=true:=by
 cases hb:gq b a with
 | true=>rfl
 | false =>
  exfalso
  have e:=KE h hb
  apply hne
  have e2:a.toList=b.toList:=e
  have := @kw b a
  rw[e2] at this
  simpa using this
theorem Ce {n:P0} {x:Int} : ∀ {l:List an},(l.Pairwise fun a b=>gq a.1 b.1=true)→(∀ b∈l,b.1≠n)→(mg n x l).Pairwise fun a b=>gq a.1 b.1=true
 | [],_,_=>Y7 _ _
 | c :: l,h,hn=>by
  obtain⟨h1,h2⟩:=S5.1 h
  unfold mg
  split
  ·rename_i hc
   refine S5.2 ⟨fun b hb => ?_,h⟩
   rcases R4.1 hb with rfl | hb
   ·exact hc
   ·exact vO hc (h1 b hb)
  ·rename_i hc
   refine S5.2 ⟨fun b hb => ?_,Ce h2 fun b hb=>hn b (Q5 _ hb)⟩
   rcases yk.1 hb with rfl | hb
   ·exact G8 (by simpa using hc) (hn c (by simp))
   ·exact h1 b hb
theorem Oh {d:aV} (h:ch d) (n:P0) (x:Int):ch (KG d n x).1:=by
 unfold KG
 rw[P5 (cm.2 h)]
 split
 ·exact h
 ·rename_i h1
  split
  ·exact h
  ·rename_i h2
   split
   ·exact h
   ·rename_i h3
    have h4:=h.bl
    have hn:m7 n=true:=by
     cases hh:m7 n with
     | true=>rfl
     | false=>exact S0 (.inl hh) h1
    have hb:f0 d.2.2.1 n=false:=by
     cases hh:f0 d.2.2.1 n with
     | false=>rfl
     | true=>exact S0 (.inr hh) h1
    refine⟨h.nx,h.vl,by show 1≤(mg n x d.2.2.1).length∧(mg n x d.2.2.1).length≤8; rw[E4]; omega,h.id,h.up,h.sh,h.vr,fun b hb => ?_,Ce h.bs fun b hb' => ?_⟩
    ·rcases yk.1 hb with rfl | hb
     ·exact⟨hn,by simpa using h2⟩
     ·exact h.br b hb
    ·intro e
     unfold f0 at hb
     rw[List.any_eq_false] at hb
     exact hb b hb' (R5 e)
noncomputable def G9 (d:aV) (m n:P0):aV×List aw×Int :=
 if fR d=true then
  (if f0 d.2.2.1 m=true∧f0 d.2.2.1 n=true then
   (if bT d.2.2.1 n∈cE d.2.1 (bT d.2.2.1 m) then(d,[],0)
   else if bT d.2.2.1 m∈cE d.2.1 (bT d.2.2.1 n) then((d.1,d.2.1,gT d.2.2.1 m (bT d.2.2.1 n),()),[],0)
   else
    (if r9 (eH d.2.1 (cS (cE d.2.1 (bT d.2.2.1 n)) (cE d.2.1 (bT d.2.2.1 m)) 0)) (eH d.2.1 (bT d.2.2.1 m)) (eH d.2.1 (bT d.2.2.1 n))≠[] then(d,r9 (eH d.2.1 (cS (cE d.2.1 (bT d.2.2.1 n)) (cE d.2.1 (bT d.2.2.1 m)) 0)) (eH d.2.1 (bT d.2.2.1 m)) (eH d.2.1 (bT d.2.2.1 n)),6)
    else if 120 < (jq (eH d.2.1 (cS (cE d.2.1 (bT d.2.2.1 n)) (cE d.2.1 (bT d.2.2.1 m)) 0)) (eH d.2.1 (bT d.2.2.1 m)) (eH d.2.1 (bT d.2.2.1 n))).length then(d,[],4)
    else if tJ d=true then(d,[],5)
    else(IT d m [min (bT d.2.2.1 m) (bT d.2.2.1 n),max (bT d.2.2.1 m) (bT d.2.2.1 n)] (jq (eH d.2.1 (cS (cE d.2.1 (bT d.2.2.1 n)) (cE d.2.1 (bT d.2.2.1 m)) 0)) (eH d.2.1 (bT d.2.2.1 m)) (eH d.2.1 (bT d.2.2.1 n))),[],0)))
  else(d,[],2))
 else(Md,[],1)
theorem Nh {vs:List ak} (h:vs.Pairwise fun a b=>a.1 < b.1) {v:ak} (hv:v∈vs):eH vs v.1=v.2.2.1:=by
 unfold eH
 rw[G6 h hv]
theorem ch.sheet {d:aV} (h:ch d) (x:Int):bd (eH d.2.1 x)=true:=by
 unfold eH
 cases hf:d.2.1.find? (fun v=>v.1 == x) with
 | none=>exact d8.2 ⟨ab_,(fun c hc=>by cases hc),Y6 _⟩
 | some v=>exact h.sh v (av_ hf)
theorem Oi {d:aV} (h:ch d) (m n:P0):ch (G9 d m n).1:=by
 unfold G9
 rw[P5 (cm.2 h)]
 by_cases h1:f0 d.2.2.1 m=true∧f0 d.2.2.1 n=true
 ·rw[P5 h1]
  have ha:=h.head h1.1
  have hb:=h.head h1.2
  generalize bT d.2.2.1 m=a at *
  generalize bT d.2.2.1 n=b at *
  by_cases h2:b∈cE d.2.1 a
  ·rw[P5 h2]
   exact h
  ·rw[P4 h2]
   by_cases h3:a∈cE d.2.1 b
   ·rw[P5 h3]
    exact h.moved hb.1
   ·rw[P4 h3]
    have hab:a≠b:=by
     rintro rfl
     exact h2 ((tH h ha.1 a).2 (wC h ha.1).2.2.1)
    have ho:=ET (h.sheet (cS (cE d.2.1 b) (cE d.2.1 a) 0))
    have hx:=ET (h.sheet a)
    have hy:=ET (h.sheet b)
    generalize eH d.2.1 (cS (cE d.2.1 b) (cE d.2.1 a) 0)=o at *
    generalize eH d.2.1 a=x at *
    generalize eH d.2.1 b=y at *
    split
    ·exact h
    ·split
     ·exact h
     ·rename_i hlen
      split
      ·exact h
      ·rename_i hf
       refine h.grown (by simpa using hf) (by simp) (fun u hu => ?_) ?_ (Of (Nb ho hx hy) (by omega))
       ·rcases R4.1 hu with e | hu
        ·rw[e,Int.min_def]
         split
         ·exact ha.1
         ·exact hb.1
        ·rw[R7.1 hu,Int.max_def]
         split
         ·exact hb.1
         ·exact ha.1
       ·refine S5.2 ⟨fun u hu => ?_,Y7 _ _⟩
        rw[R7.1 hu]
        omega
 ·rw[P4 h1]
  exact h
section
variable {d:aV} (h:ch d)
include h
end
end Go.Proofs.YtfffplonjaigkaaGreatDoor.Abs
