/- Plain laws: sheets as rows in order: what is taken out, what is put in, what lies at a place. -/
import Derived.Test.YtfffplonjaigkaaGreatDoorZM7
set_option linter.unusedVariables false
set_option linter.unusedSimpArgs false
set_option linter.unusedSectionVars false
open Bool renaming and_eq_true→S8,eq_false_iff→ad_,or_eq_false_iff→cl_,or_eq_true→bd_
open ByteArray renaming toList→S2
open List renaming any_eq_true→bv_,getElem?_eq_some_iff→U0,getElem?_of_mem→do_,length_append→S5,length_cons→T3,length_filter_le→dh_,length_map→X6,length_nil→V3,length_singleton→S3,mem_append→W1,mem_cons_of_mem→T8,mem_cons→U7,mem_filter→cc_,mem_flatMap→bt_,mem_map→Z1,mem_of_find?_eq_some→cm_,mem_of_getElem?→W4,mem_singleton→U4,pairwise_append→dq_,pairwise_cons→V7,pairwise_map→ba_,pairwise_singleton→am_
open List.Pairwise renaming filter→co_,nil→br_
open Nat renaming le_trans→W7,zero_le→aa_
open Prod renaming ext→bh_
open _root_ renaming ByteArray→S0,absurd→V2,decide_eq_false→U9,decide_eq_true_eq→T0,decide_eq_true→U2,if_neg→S4,if_pos→S6,of_decide_eq_true→X7
namespace Go.Proofs.YtfffplonjaigkaaGreatDoor.Abs
open Go
theorem xK {α:Type} {lt:α→α→Bool} (hi : ∀ x,lt x x=false) (ht : ∀ x y z,lt x y=true→lt y z=true→lt x z=true) : ∀ {l m:List α},(l.Pairwise fun a b=>lt a b=true)→(m.Pairwise fun a b=>lt a b=true)→(∀ x,x∈l↔x∈m)→l=m
 | [],[],_,_,_=>rfl
 | [],y :: m,_,_,h=>by have:=(h y).2 (by simp); cases this
 | x :: l,[],_,_,h=>by have:=(h x).1 (by simp); cases this
 | x :: l,y :: m,hl,hm,h=>by
  rw[V7] at hl hm
  have hxy:x=y:=by
   rcases U7.1 ((h x).1 (by simp)) with e | hx
   ·exact e
   ·rcases U7.1 ((h y).2 (by simp)) with e | hy
    ·exact e.symm
    ·have:=ht _ _ _ (hl.1 y hy) (hm.1 x hx)
     rw[hi] at this
     cases this
  subst hxy
  congr 1
  refine xK hi ht hl.2 hm.2 fun z=>⟨fun hz => ?_,fun hz => ?_⟩
  ·rcases U7.1 ((h z).1 (T8 _ hz)) with e | hz'
   ·subst e
    have:=hl.1 z hz
    rw[hi] at this
    cases this
   ·exact hz'
  ·rcases U7.1 ((h z).2 (T8 _ hz)) with e | hz'
   ·subst e
    have:=hm.1 z hz
    rw[hi] at this
    cases this
   ·exact hz'
theorem lE {a b:aA}:bv a b=true↔a.2.1 < b.2.1∨(a.2.1=b.2.1∧a.1 < b.1):=by
 unfold bv
 simp
theorem gY (a:aA):bv a a=false:=by
 rw[ad_]
 intro h
 have:=lE.1 h
 omega
theorem fx {a b c:aA} (h:bv a b=true) (k:bv b c=true):bv a c=true:=by
 have:=lE.1 h
 have:=lE.1 k
 rw[lE]
 omega
theorem PY {a b:aA} (h1:a.1=b.1) (h2:a.2.1=b.2.1):a=b:=bh_ h1 (bh_ h2 rfl)
theorem sB (a b:aA):bv a b=true∨a=b∨bv b a=true:=by
 rw[lE,lE]
 by_cases h:a=b
 ·exact .inr (.inl h)
 ·by_cases h2:a.2.1=b.2.1
  ·have:a.1≠b.1:=fun e=>h (PY e h2)
   omega
  ·omega
theorem Al {a b:aA} (h:bv a b=true):a≠b:=by
 rintro rfl
 rw[gY] at h
 cases h
def eN (s:List ac):Prop:=s.Pairwise fun a b=>bv a.1 b.1=true
theorem Js : ∀ {s:List ac} {o:Option ac},xJ o s=true↔(∀ p,o=some p → ∀ c∈s,bv p.1 c.1=true)∧eN s ∧ ∀ c∈s,bT c.1=true∧jg c.2.1=true
 | [],o=>by simp[xJ,eN]
 | c :: l,o=>by
  have ih:=Js (s:=l) (o:=some c)
  simp only[xJ,S8,ih]
  constructor
  ·rintro⟨⟨⟨h1,h2⟩,h3⟩,h4,h5,h6⟩
   refine⟨?_,V7.2 ⟨fun d hd=>h4 c rfl d hd,h5⟩,?_⟩
   ·rintro p rfl d hd
    have h3:bv p.1 c.1=true:=h3
    rcases U7.1 hd with rfl | hd
    ·exact h3
    ·exact fx h3 (h4 c rfl d hd)
   ·intro d hd
    rcases U7.1 hd with rfl | hd
    ·exact⟨h1,h2⟩
    ·exact h6 d hd
  ·rintro⟨h1,h2,h3⟩
   have h2:=V7.1 h2
   refine⟨⟨h3 c (by simp),?_⟩,?_,h2.2,fun d hd=>h3 d (T8 _ hd)⟩
   ·cases o with
    | none=>rfl
    | some p=>exact h1 p rfl c (by simp)
   ·rintro p hp d hd
    cases hp
    exact h2.1 d hd
theorem eF {s:List ac}:bi s=true↔eN s∧(∀ c∈s,bT c.1=true∧jg c.2.1=true)∧s.length≤120:=by
 unfold bi
 rw[S8,Js,T0]
 constructor
 ·rintro⟨⟨_,h1,h2⟩,h3⟩
  exact⟨h1,h2,h3⟩
 ·rintro⟨h1,h2,h3⟩
  exact⟨⟨(fun p hp=>by cases hp),h1,h2⟩,h3⟩
theorem El {x:S0}:jg x=true↔(fW x).2=true∧x≠eS∧(fW x).1=x:=by
 unfold jg
 simp[S8,and_assoc]
theorem OT {x:S0} (h:jg x=true):x≠eS:=(El.1 h).2.1
theorem Em (x:S0):(fW x).1.size≤200:=by
 by_cases h:x.size≤9223372036854775807
 ·exact(Cd h).2.2
 ·unfold fW
  rw[dif_neg h]
  decide
theorem Lm {x:S0} (h:jg x=true):x.size≤200:=by
 have:=Em x
 rw[(El.1 h).2.2] at this
 exact this
def kg (r:aA) (s:List ac):List ac:=s.filter fun c => !decide (c.1=r)
def oH (r:aA) (x:S0):List ac→List ac
 | []=>[(r,x,())]
 | c :: l=>if bv c.1 r=true then c :: oH r x l else(r,x,()) :: kg r (c :: l)
noncomputable def iz (s:List ac) (r:aA) (x:S0):List ac:=if x=eS then kg r s else oH r x s
theorem C7 {r:aA} {s:List ac} {c:ac}:c∈kg r s↔c∈s∧c.1≠r:=by simp[kg]
theorem Jt {r:aA} {s:List ac} (h:eN s):eN (kg r s):=co_ _ h
theorem Ju (r:aA) (s:List ac):(kg r s).length≤s.length:=dh_ _ _
theorem sC {r:aA} {c:ac} {l:List ac} (h:c.1≠r):kg r (c :: l)=c :: kg r l:=by simp[kg,h]
theorem zo {r:aA} {c:ac} {l:List ac} (h:c.1=r):kg r (c :: l)=kg r l:=by simp[kg,h]
theorem Am {r:aA} {x:S0} : ∀ s:List ac,(oH r x s).Perm (kg r s++[(r,x,())])
 | []=>by simp[oH,kg]
 | c :: l=>by
  unfold oH
  by_cases h:bv c.1 r=true
  ·rw[S6 h,sC (Al h)]
   exact(Am l).cons c
  ·rw[S4 h]
   exact(List.perm_append_singleton _ _).symm
theorem Jv {r:aA} {x:S0} {s:List ac} {c:ac}:c∈oH r x s↔(c∈s∧c.1≠r)∨c=(r,x,()):=by
 rw[(Am s).mem_iff,W1,C7,U4]
theorem PZ (r:aA) (x:S0) (s:List ac):(oH r x s).length≤s.length+1:=by
 rw[(Am s).length_eq,S5,S3]
 have:=Ju r s
 omega
theorem Jw {r:aA} {x:S0} : ∀ {s:List ac},eN s→eN (oH r x s)
 | [],_=>by simp[oH,eN]
 | c :: l,h=>by
  have h':=V7.1 h
  unfold oH
  by_cases k:bv c.1 r=true
  ·rw[S6 k]
   refine V7.2 ⟨fun d hd => ?_,Jw h'.2⟩
   rcases Jv.1 hd with⟨hd,_⟩ | rfl
   ·exact h'.1 d hd
   ·exact k
  ·rw[S4 k]
   refine V7.2 ⟨fun d hd => ?_,Jt h⟩
   obtain⟨hd,hn⟩:=C7.1 hd
   show bv r d.1=true
   rcases sB c.1 r with e | e | e
   ·exact V2 e k
   ·rcases U7.1 hd with rfl | hd
    ·exact V2 e hn
    ·rw[←e]
     exact h'.1 d hd
   ·rcases U7.1 hd with rfl | hd
    ·exact e
    ·exact fx e (h'.1 d hd)
theorem Jx {r:aA} {x:S0} {s:List ac} (h:eN s):eN (iz s r x):=by
 unfold iz
 split
 ·exact Jt h
 ·exact Jw h
theorem P0 (s:List ac) (r:aA) (x:S0):(iz s r x).length≤s.length+1:=by
 unfold iz
 split
 ·have:=Ju r s
  omega
 ·exact PZ r x s
theorem px {r:aA} {x:S0} {s:List ac} {c:ac}:c∈iz s r x↔(c∈s∧c.1≠r)∨(x≠eS∧c=(r,x,())):=by
 unfold iz
 by_cases h:x=eS
 ·rw[S6 h,C7]
  simp[h]
 ·rw[S4 h,Jv]
  simp[h]
theorem iA {q:aA} : ∀ {s:List ac},(∀ c∈s,c.1≠q)→aH q s=eS
 | [],_=>rfl
 | c :: l,h=>by
  rw[aH,S4 (h c (by simp))]
  exact iA fun d hd=>h d (T8 _ hd)
theorem jD : ∀ {s:List ac} {c:ac},eN s→c∈s→aH c.1 s=c.2.1
 | d :: l,c,h,hc=>by
  have h':=V7.1 h
  rw[aH]
  rcases U7.1 hc with rfl | hc
  ·rw[S6 rfl]
  ·rw[S4 (Al (h'.1 c hc))]
   exact jD h'.2 hc
theorem vu {q:aA} {s:List ac} (h:eN s):(∃ c∈s,c.1=q∧c.2.1=aH q s)∨((∀ c∈s,c.1≠q)∧aH q s=eS):=by
 by_cases k : ∃ c∈s,c.1=q
 ·obtain⟨c,hc,rfl⟩:=k
  exact .inl ⟨c,hc,rfl,(jD h hc).symm⟩
 ·have k' : ∀ c∈s,c.1≠q:=fun c hc e=>k ⟨c,hc,e⟩
  exact .inr ⟨k',iA k'⟩
theorem Nd {q r:aA} {x:S0} {s:List ac} (h:eN s):aH q (iz s r x)=if q=r then x else aH q s:=by
 have hs:=Jx (r:=r) (x:=x) h
 by_cases e:q=r
 ·subst e
  rw[S6 rfl]
  by_cases hx:x=eS
  ·rw[iA,hx]
   intro c hc
   rcases px.1 hc with⟨_,hn⟩ | ⟨hn,_⟩
   ·exact hn
   ·exact V2 hx hn
  ·exact jD (c:=(q,x,())) hs (px.2 (.inr ⟨hx,rfl⟩))
 ·rw[S4 e]
  rcases vu (q:=q) h with⟨c,hc,rfl,hv⟩ | ⟨hn,hv⟩
  ·rw[jD hs (px.2 (.inl ⟨hc,e⟩)),hv]
  ·rw[hv,iA]
   intro c hc
   rcases px.1 hc with⟨hc,_⟩ | ⟨_,rfl⟩
   ·exact hn c hc
   ·exact fun k=>e k.symm
theorem Nf {s t:List ac} (hs:eN s) (ht:eN t) (ns : ∀ c∈s,c.2.1≠eS) (nt : ∀ c∈t,c.2.1≠eS) (h : ∀ q,aH q s=aH q t):s=t:=by
 refine xK (lt:=fun a b:ac=>bv a.1 b.1) (fun x=>gY _) (fun x y z h k=>fx h k) hs ht fun c=>⟨fun hc => ?_,fun hc => ?_⟩
 ·have h1:=jD hs hc
  rw[h] at h1
  rcases vu (q:=c.1) ht with⟨d,hd,e1,e2⟩ | ⟨_,e⟩
  ·have:d=c:=bh_ e1 (bh_ (e2.trans h1) rfl)
   rw[←this]
   exact hd
  ·exact V2 (h1.symm.trans e) (ns c hc)
 ·have h1:=jD ht hc
  rw[←h] at h1
  rcases vu (q:=c.1) hs with⟨d,hd,e1,e2⟩ | ⟨_,e⟩
  ·have:d=c:=bh_ e1 (bh_ (e2.trans h1) rfl)
   rw[←this]
   exact hd
  ·exact V2 (h1.symm.trans e) (nt c hc)
theorem Q5 {r:aA} {x:S0} {s:List ac} (h : ∀ c∈s,c.2.1≠eS) : ∀ c∈iz s r x,c.2.1≠eS:=by
 intro c hc
 rcases px.1 hc with⟨hc,_⟩ | ⟨hx,rfl⟩
 ·exact h c hc
 ·exact hx
theorem Lo {s:List ac} (h:bi s=true) : ∀ c∈s,c.2.1≠eS:=fun c hc=>OT ((eF.1 h).2.1 c hc).2
theorem sD {s:List ac} (h:bi s=true):eN s:=(eF.1 h).1
theorem dc {s:List ac} (h:bi s=true):s.length≤120:=(eF.1 h).2.2
theorem mu {s:List ac} (h:bi s=true) : ∀ c∈s,c.2.1.size≤200:=fun c hc=>Lm ((eF.1 h).2.1 c hc).2
def vv (l:List aA):Prop:=l.Pairwise fun a b=>bv a b=true
def ne (r:aA):List aA→List aA
 | []=>[r]
 | c :: l=>if bv c r=true then c :: ne r l else if c=r then c :: l else r :: c :: l
def xL (l:List aA):List aA:=l.foldr ne []
theorem An {r q:aA} : ∀ {l:List aA},q∈ne r l↔q=r∨q∈l
 | []=>by simp[ne]
 | c :: l=>by
  unfold ne
  by_cases h:bv c r=true
  ·rw[S6 h,U7,An (l:=l),U7]
   constructor
   ·rintro(h | h | h)
    ·exact .inr (.inl h)
    ·exact .inl h
    ·exact .inr (.inr h)
   ·rintro(h | h | h)
    ·exact .inr (.inl h)
    ·exact .inl h
    ·exact .inr (.inr h)
  ·rw[S4 h]
   by_cases e:c=r
   ·rw[S6 e,U7]
    constructor
    ·rintro(h | h)
     ·exact .inl (h.trans e)
     ·exact .inr (.inr h)
    ·rintro(h | h | h)
     ·exact .inl (h.trans e.symm)
     ·exact .inl h
     ·exact .inr h
   ·rw[S4 e,U7]
theorem Ha {r:aA} : ∀ {l:List aA},vv l→vv (ne r l)
 | [],_=>by simp[ne,vv]
 | c :: l,h=>by
  have h':=V7.1 h
  unfold ne
  by_cases k:bv c r=true
  ·rw[S6 k]
   refine V7.2 ⟨fun d hd => ?_,Ha h'.2⟩
   rcases An.1 hd with rfl | hd
   ·exact k
   ·exact h'.1 d hd
  ·rw[S4 k]
   by_cases e:c=r
   ·rw[S6 e]
    exact h
   ·rw[S4 e]
    have hr:bv r c=true:=by
     rcases sB c r with x | x | x
     ·exact V2 x k
     ·exact V2 x e
     ·exact x
    refine V7.2 ⟨fun d hd => ?_,h⟩
    rcases U7.1 hd with rfl | hd
    ·exact hr
    ·exact fx hr (h'.1 d hd)
theorem vw : ∀ l:List aA,vv (xL l)
 | []=>br_
 | c :: l=>Ha (vw l)
theorem Ao {q:aA} : ∀ {l:List aA},q∈xL l↔q∈l
 | []=>Iff.rfl
 | c :: l=>by
  show q∈ne c (xL l)↔_
  rw[An,Ao (l:=l),U7]
theorem OU {l m:List aA} (hl:vv l) (hm:vv m) (h : ∀ q,q∈l↔q∈m):l=m:=xK (lt:=bv) gY (fun _ _ _=>fx) hl hm h
theorem Hb : ∀ l:List aA,(xL l).length≤l.length
 | []=>Nat.le_refl _
 | c :: l=>by
  have ih:=Hb l
  have : ∀ m:List aA,(ne c m).length≤m.length+1:=by
   intro m
   induction m with
   | nil=>simp[ne]
   | cons d m ih =>
    unfold ne
    split
    ·simp only[T3]
     omega
    ·split
     ·simp only[T3]
      omega
     ·simp only[T3]
      omega
  have:=this (xL l)
  show(ne c (xL l)).length≤_
  simp only[T3]
  omega
def C8 (l:List aV):Prop:=l.Pairwise fun a b=>bv a.1 b.1=true
def xM (L M:List ac) (c:aV):Prop:=c.2.1=aH c.1 L∧c.2.2.1=aH c.1 M∧c.2.1≠c.2.2.1
theorem OV {l m:List aV} (hl:C8 l) (hm:C8 m) (h : ∀ q,q∈l↔q∈m):l=m:=xK (lt:=fun a b:aV=>bv a.1 b.1) (fun _=>gY _) (fun _ _ _ h k=>fx h k) hl hm h
noncomputable def So (a b:List ac) (q:aA):aV:=(q,aH q a,aH q b,())
noncomputable def gZ (a:List ac):List aA:=a.map fun c=>c.1
noncomputable def rM (a b:List ac):List aV:=((xL (gZ a++gZ b)).map (So a b)).filter fun c => !decide (c.2.1=c.2.2.1)
theorem C9 (a b:List ac):C8 (rM a b):=by
 refine co_ _ ?_
 rw[ba_]
 exact vw _
theorem vx {a:List ac} {q:aA}:q∈gZ a ↔ ∃ c∈a,c.1=q:=by simp[gZ]
theorem nN {a:List ac} {q:aA} (h:aH q a≠eS):q∈gZ a:=by
 rw[vx]
 apply Classical.byContradiction
 intro hn
 exact h (iA fun c hc e=>hn ⟨c,hc,e⟩)
theorem tU {a b:List ac} {c:aV}:c∈rM a b↔xM a b c:=by
 unfold rM xM
 rw[cc_,Z1]
 constructor
 ·rintro⟨⟨q,_,rfl⟩,h⟩
  exact⟨rfl,rfl,by simpa using h⟩
 ·rintro⟨h1,h2,h3⟩
  refine⟨⟨c.1,?_,?_⟩,by simpa using h3⟩
  ·rw[Ao,W1]
   by_cases e:aH c.1 a=eS
   ·exact .inr (nN fun e2=>h3 (by rw[h1,h2,e,e2]))
   ·exact .inl (nN e)
  ·exact bh_ rfl (bh_ h1.symm (bh_ h2.symm rfl))
theorem P1 (a b:List ac):(rM a b).length≤a.length+b.length:=by
 unfold rM
 refine W7 (dh_ _ _) ?_
 rw[X6]
 refine W7 (Hb _) ?_
 simp[gZ]
noncomputable def cC (c:aV) (r:List aV):List aV:=if c.2.1=c.2.2.1 then r else c :: r
theorem Q6 {c d:aV} {r:List aV}:c∈cC d r↔(c=d∧d.2.1≠d.2.2.1)∨c∈r:=by
 unfold cC
 by_cases h:d.2.1=d.2.2.1
 ·rw[S6 h]
  simp[h]
 ·rw[S4 h,U7]
  simp[h]
theorem tV {q:aA} {f t:S0} {L M L' M':List ac} {r:List aV} (hf:aH q L=f) (ht:aH q M=t) (hL : ∀ p,p≠q→aH p L=aH p L') (hM : ∀ p,p≠q→aH p M=aH p M') (nL:aH q L'=eS) (nM:aH q M'=eS)
  (ih : ∀ c,c∈r↔xM L' M' c) : ∀ c,c∈cC (q,f,t,()) r↔xM L M c:=by
 intro c
 rw[Q6,ih]
 unfold xM
 by_cases e:c.1=q
 ·rw[e,hf,ht,nL,nM]
  constructor
  ·rintro(⟨rfl,h⟩ | ⟨h1,h2,h3⟩)
   ·exact⟨rfl,rfl,h⟩
   ·exact V2 (h1.trans h2.symm) h3
  ·rintro⟨h1,h2,h3⟩
   refine .inl ⟨bh_ e (bh_ h1 (bh_ h2 rfl)),?_⟩
   rw[h1,h2] at h3
   exact h3
 ·rw[hL _ e,hM _ e]
  constructor
  ·rintro(⟨rfl,h⟩ | h)
   ·exact V2 rfl e
   ·exact h
  ·exact fun h => .inr h
theorem xN {q:aA} {f t:S0} {r:List aV} (hr:C8 r) (hq : ∀ c∈r,bv q c.1=true):C8 (cC (q,f,t,()) r):=by
 unfold cC
 split
 ·exact hr
 ·exact V7.2 ⟨hq,hr⟩
noncomputable def iO:List ac→List ac→List aV
 | [],[]=>[]
 | a :: l,[]=>cC (a.1,a.2.1,eS,()) (iO l [])
 | [],b :: m=>cC (b.1,eS,b.2.1,()) (iO [] m)
 | a :: l,b :: m=>if bv a.1 b.1=true then cC (a.1,a.2.1,eS,()) (iO l (b :: m)) else if bv b.1 a.1=true then cC (b.1,eS,b.2.1,()) (iO (a :: l) m) else cC (a.1,a.2.1,b.2.1,()) (iO l m)
termination_by l m=>l.length+m.length
theorem f4 {p:aA} {a:ac} {l:List ac} (h:p≠a.1):aH p (a :: l)=aH p l:=by rw[aH,S4 (fun e=>h e.symm)]
theorem f8 {a:ac} {l:List ac}:aH a.1 (a :: l)=a.2.1:=by rw[aH,S6 rfl]
theorem dA {q:aA} {l:List ac} (h : ∀ c∈l,bv q c.1=true):aH q l=eS:=iA fun c hc e=>by
 have:=h c hc
 rw[e,gY] at this
 cases this
theorem qW {L M:List ac} {c:aV} (h:xM L M c):(∃ d∈L,d.1=c.1) ∨ ∃ d∈M,d.1=c.1:=by
 obtain⟨h1,h2,h3⟩:=h
 by_cases e:aH c.1 L=eS
 ·exact .inr (vx.1 (nN fun e2=>h3 (by rw[h1,h2,e,e2])))
 ·exact .inl (vx.1 (nN e))
theorem tW : ∀(l m:List ac),eN l→eN m→C8 (iO l m) ∧ ∀ c,c∈iO l m↔xM l m c
 | [],[],_,_=>by
  unfold iO
  refine⟨br_,fun c=>⟨(fun h=>by cases h),?_⟩⟩
  rintro⟨h1,h2,h3⟩
  exact V2 (h1.trans h2.symm) h3
 | a :: l,[],hl,hm=>by
  have hl':=V7.1 hl
  obtain⟨i1,i2⟩:=tW l [] hl'.2 hm
  unfold iO
  refine⟨xN i1 fun c hc => ?_,tV f8 rfl (fun p hp=>f4 hp) (fun _ _=>rfl) (dA hl'.1) rfl i2⟩
  rcases qW ((i2 c).1 hc) with⟨d,hd,e⟩ | ⟨d,hd,e⟩
  ·rw[←e]
   exact hl'.1 d hd
  ·cases hd
 | [],b :: m,hl,hm=>by
  have hm':=V7.1 hm
  obtain⟨i1,i2⟩:=tW [] m hl hm'.2
  unfold iO
  refine⟨xN i1 fun c hc => ?_,tV rfl f8 (fun _ _=>rfl) (fun p hp=>f4 hp) rfl (dA hm'.1) i2⟩
  rcases qW ((i2 c).1 hc) with⟨d,hd,e⟩ | ⟨d,hd,e⟩
  ·cases hd
  ·rw[←e]
   exact hm'.1 d hd
 | a :: l,b :: m,hl,hm=>by
  have hl':=V7.1 hl
  have hm':=V7.1 hm
  unfold iO
  by_cases h1:bv a.1 b.1=true
  ·rw[S6 h1]
   obtain⟨i1,i2⟩:=tW l (b :: m) hl'.2 hm
   have hb : ∀ c∈b :: m,bv a.1 c.1=true:=by
    intro c hc
    rcases U7.1 hc with rfl | hc
    ·exact h1
    ·exact fx h1 (hm'.1 c hc)
   refine⟨xN i1 fun c hc => ?_,tV f8 (dA hb) (fun p hp=>f4 hp) (fun _ _=>rfl) (dA hl'.1) (dA hb) i2⟩
   rcases qW ((i2 c).1 hc) with⟨d,hd,e⟩ | ⟨d,hd,e⟩
   ·rw[←e]
    exact hl'.1 d hd
   ·rw[←e]
    exact hb d hd
  ·rw[S4 h1]
   by_cases h2:bv b.1 a.1=true
   ·rw[S6 h2]
    obtain⟨i1,i2⟩:=tW (a :: l) m hl hm'.2
    have ha : ∀ c∈a :: l,bv b.1 c.1=true:=by
     intro c hc
     rcases U7.1 hc with rfl | hc
     ·exact h2
     ·exact fx h2 (hl'.1 c hc)
    refine⟨xN i1 fun c hc => ?_,tV (dA ha) f8 (fun _ _=>rfl) (fun p hp=>f4 hp) (dA ha) (dA hm'.1) i2⟩
    rcases qW ((i2 c).1 hc) with⟨d,hd,e⟩ | ⟨d,hd,e⟩
    ·rw[←e]
     exact ha d hd
    ·rw[←e]
     exact hm'.1 d hd
   ·rw[S4 h2]
    obtain⟨i1,i2⟩:=tW l m hl'.2 hm'.2
    have e:a.1=b.1:=by
     rcases sB a.1 b.1 with h | h | h
     ·exact V2 h h1
     ·exact h
     ·exact V2 h h2
    have hm'1 : ∀ c∈m,bv a.1 c.1=true:=by
     rw[e]
     exact hm'.1
    refine⟨xN i1 fun c hc => ?_,tV f8 (by rw[e]; exact f8) (fun p hp=>f4 hp) (fun p hp=>f4 (by rw[←e]; exact hp)) (dA hl'.1) (dA hm'1) i2⟩
    rcases qW ((i2 c).1 hc) with⟨d,hd,e'⟩ | ⟨d,hd,e'⟩
    ·rw[←e']
     exact hl'.1 d hd
    ·rw[←e']
     exact hm'1 d hd
termination_by l m=>l.length+m.length
theorem Q7 {l m:List ac} (hl:eN l) (hm:eN m):iO l m=rM l m:=by
 obtain⟨h1,h2⟩:=tW l m hl hm
 exact OV h1 (C9 _ _) fun c=>by rw[h2,tU]
noncomputable def xO (o x y:List ac) (q:aA):S0:=if aH q x=aH q o then aH q y else aH q x
noncomputable def Jy (o x y:List ac) (q:aA):Bool := !decide (aH q x=aH q o) && (!decide (aH q y=aH q o) && !decide (aH q x=aH q y))
noncomputable def Ap (o x y:List ac):List aA:=xL (gZ o++(gZ x++gZ y))
noncomputable def Cg (q:aA) (v:S0):List ac:=if v=eS then [] else [(q,v,())]
noncomputable def ki (o x y:List ac):List ac:=(Ap o x y).flatMap fun q=>Cg q (xO o x y q)
noncomputable def tX (o x y:List ac):List aA:=(Ap o x y).filter (Jy o x y)
theorem rN {q:aA} {v:S0} {c:ac}:c∈Cg q v↔c=(q,v,())∧v≠eS:=by
 unfold Cg
 by_cases h:v=eS
 ·rw[S6 h]
  simp[h]
 ·rw[S4 h,U4]
  simp[h]
theorem En {f:aA→S0} : ∀ {l:List aA},vv l→eN (l.flatMap fun q=>Cg q (f q))
 | [],_=>br_
 | r :: l,h=>by
  have h':=V7.1 h
  rw[List.flatMap_cons]
  refine dq_.2 ⟨?_,En h'.2,?_⟩
  ·unfold Cg
   split
   ·exact br_
   ·exact am_ _ _
  ·intro a ha b hb
   obtain⟨rfl,_⟩:=rN.1 ha
   obtain⟨q,hq,hb⟩:=bt_.1 hb
   obtain⟨rfl,_⟩:=rN.1 hb
   exact h'.1 q hq
theorem Aq (o x y:List ac):eN (ki o x y):=En (vw _)
theorem qX {o x y:List ac} {c:ac}:c∈ki o x y↔c.1∈Ap o x y∧c.2.1=xO o x y c.1∧c.2.1≠eS:=by
 unfold ki
 rw[bt_]
 constructor
 ·rintro⟨q,hq,hc⟩
  obtain⟨rfl,h⟩:=rN.1 hc
  exact⟨hq,rfl,h⟩
 ·rintro⟨h1,h2,h3⟩
  refine⟨c.1,h1,rN.2 ⟨bh_ rfl (bh_ h2 rfl),?_⟩⟩
  rw[←h2]
  exact h3
theorem OW {o x y:List ac} {q:aA}:q∈Ap o x y↔q∈gZ o∨q∈gZ x∨q∈gZ y:=by
 unfold Ap
 rw[Ao,W1,W1]
theorem Hc {o x y:List ac} {q:aA} (h:q ∉ Ap o x y):aH q o=eS∧aH q x=eS∧aH q y=eS:=by
 rw[OW] at h
 have k : ∀ {a:List ac},q ∉ gZ a→aH q a=eS:=fun hn=>iA fun c hc e=>hn (vx.2 ⟨c,hc,e⟩)
 exact⟨k fun e=>h (.inl e),k fun e=>h (.inr (.inl e)),k fun e=>h (.inr (.inr e))⟩
theorem Lp (o x y:List ac) (q:aA):aH q (ki o x y)=xO o x y q:=by
 by_cases h:q∈Ap o x y
 ·by_cases e:xO o x y q=eS
  ·rw[e,iA]
   intro c hc k
   obtain⟨_,h2,h3⟩:=qX.1 hc
   rw[h2,k] at h3
   exact h3 e
  ·exact jD (c:=(q,xO o x y q,())) (Aq o x y) (qX.2 ⟨h,rfl,e⟩)
 ·obtain⟨h1,h2,h3⟩:=Hc h
  rw[iA fun c hc k=>h (by have:=(qX.1 hc).1; rw[k] at this; exact this)]
  unfold xO
  rw[h1,h2,S6 rfl,h3]
theorem P2 (o x y:List ac) : ∀ c∈ki o x y,c.2.1≠eS:=fun c hc=>(qX.1 hc).2.2
theorem P3 (o x y:List ac):vv (tX o x y):=co_ _ (vw _)
theorem Da {o x y:List ac} {q:aA}:Jy o x y q=true↔aH q x≠aH q o∧aH q y≠aH q o∧aH q x≠aH q y:=by
 unfold Jy
 simp
theorem P4 {o x y:List ac} {q:aA}:q∈tX o x y↔Jy o x y q=true:=by
 unfold tX
 rw[cc_]
 refine⟨fun h=>h.2,fun h=>⟨?_,h⟩⟩
 apply Classical.byContradiction
 intro hn
 obtain⟨h1,h2,h3⟩:=Hc hn
 obtain⟨k,_⟩:=Da.1 h
 exact k (h2.trans h1.symm)
noncomputable def nO (x:List ac) (p:List ac×List aA) (c:aV):List ac×List aA :=
 if aH c.1 x=c.2.1 then(iz p.1 c.1 c.2.2.1,p.2) else if aH c.1 x=c.2.2.1 then p else(p.1,p.2++[c.1])
theorem Eo {o x y:List ac} (hx:eN x) (hx0 : ∀ c∈x,c.2.1≠eS) : ∀(ys pre:List aV),rM o y=pre++ys → ∀ p:List ac×List aA,eN p.1→(∀ c∈p.1,c.2.1≠eS)→p.2=(pre.filter fun c=>Jy o x y c.1).map (fun c=>c.1) →
  (∀ q,aH q p.1=if(∃ c∈pre,c.1=q∧aH q x=c.2.1) then aH q y else aH q x)→(ys.foldl (nO x) p)=(ki o x y,tX o x y)
 | [],pre,he,p,h1,h2,h3,h4=>by
  rw[List.append_nil] at he
  subst he
  refine bh_ (Nf h1 (Aq o x y) h2 (P2 o x y) fun q => ?_) ?_
  ·show aH q p.1=_
   rw[h4,Lp]
   unfold xO
   by_cases e:aH q x=aH q o
   ·rw[S6 e]
    by_cases k:aH q o=aH q y
    ·split
     ·rfl
     ·rw[e,k]
    ·rw[S6]
     exact⟨(q,aH q o,aH q y,()),tU.2 ⟨rfl,rfl,k⟩,rfl,e⟩
   ·rw[S4 e,S4]
    rintro⟨c,hc,rfl,hq⟩
    obtain⟨g1,_,_⟩:=tU.1 hc
    exact e (hq.trans g1)
  ·show p.2=_
   rw[h3]
   refine OU ?_ (P3 o x y) fun q => ?_
   ·unfold vv
    rw[ba_]
    exact co_ _ (C9 o y)
   ·rw[P4,Z1]
    constructor
    ·rintro⟨c,hc,rfl⟩
     exact(cc_.1 hc).2
    ·intro hq
     obtain⟨k1,k2,k3⟩:=Da.1 hq
     exact⟨(q,aH q o,aH q y,()),cc_.2 ⟨tU.2 ⟨rfl,rfl,fun e=>k2 e.symm⟩,hq⟩,rfl⟩
 | c :: ys,pre,he,p,h1,h2,h3,h4=>by
  have hc:xM o y c:=tU.1 (by rw[he]; simp)
  obtain⟨g1,g2,g3⟩:=hc
  rw[List.foldl_cons]
  have hnew : ∀ d∈pre,d.1≠c.1:=by
   intro d hd e
   have:=C9 o y
   rw[he] at this
   have:=(dq_.1 this).2.2 d hd c (by simp)
   rw[e,gY] at this
   cases this
  refine Eo hx hx0 ys (pre++[c]) (aM he) _ ?_ ?_ ?_ ?_
  ·unfold nO
   split
   ·exact Jx h1
   ·split <;> exact h1
  ·unfold nO
   split
   ·exact Q5 h2
   ·split <;> exact h2
  ·rw[List.filter_append,List.map_append,←h3]
   unfold nO
   have hb:Jy o x y c.1=true ↔ ¬aH c.1 x=c.2.1 ∧ ¬aH c.1 x=c.2.2.1:=by
    rw[Da,g1,g2]
    refine⟨fun⟨a,b,d⟩=>⟨a,d⟩,fun⟨a,d⟩=>⟨a,?_,d⟩⟩
    rw[g1,g2] at g3
    exact fun e=>g3 e.symm
   by_cases e1:aH c.1 x=c.2.1
   ·rw[S6 e1,List.filter_cons_of_neg (by rw[hb]; exact fun h=>h.1 e1)]
    simp
   ·rw[S4 e1]
    by_cases e2:aH c.1 x=c.2.2.1
    ·rw[S6 e2,List.filter_cons_of_neg (by rw[hb]; exact fun h=>h.2 e2)]
     simp
    ·rw[S4 e2,List.filter_cons_of_pos (by rw[hb]; exact⟨e1,e2⟩)]
     simp
  ·intro q
   have hex:(∃ d∈pre++[c],d.1=q∧aH q x=d.2.1)↔(∃ d∈pre,d.1=q∧aH q x=d.2.1)∨(c.1=q∧aH q x=c.2.1):=by
    constructor
    ·rintro⟨d,hd,k⟩
     rcases W1.1 hd with hd | hd
     ·exact .inl ⟨d,hd,k⟩
     ·rw[U4] at hd
      subst hd
      exact .inr k
    ·rintro(⟨d,hd,k⟩ | k)
     ·exact⟨d,List.mem_append_left _ hd,k⟩
     ·exact⟨c,by simp,k⟩
   unfold nO
   by_cases e1:aH c.1 x=c.2.1
   ·rw[S6 e1]
    show aH q (iz p.1 c.1 c.2.2.1)=_
    rw[Nd h1]
    by_cases eq:q=c.1
    ·rw[S6 eq,S6 (hex.2 (.inr ⟨eq.symm,by rw[eq]; exact e1⟩)),g2,eq]
    ·rw[S4 eq,h4]
     have:(∃ d∈pre++[c],d.1=q∧aH q x=d.2.1) ↔ ∃ d∈pre,d.1=q∧aH q x=d.2.1:=by
      rw[hex]
      exact⟨fun h=>h.elim id fun k=>V2 k.1.symm eq,.inl⟩
     simp only[this]
   ·have hp:(if aH c.1 x=c.2.1 then(iz p.1 c.1 c.2.2.1,p.2) else if aH c.1 x=c.2.2.1 then p else(p.1,p.2++[c.1])).1=p.1:=by
     rw[S4 e1]
     split <;> rfl
    rw[hp,h4]
    have:(∃ d∈pre++[c],d.1=q∧aH q x=d.2.1) ↔ ∃ d∈pre,d.1=q∧aH q x=d.2.1:=by
     rw[hex]
     refine⟨fun h=>h.elim id fun k=>V2 ?_ e1,.inl⟩
     obtain⟨k1,k2⟩:=k
     rw[k1]
     exact k2
    simp only[this]
theorem OX {o x y:List ac} (hx:eN x) (hx0 : ∀ c∈x,c.2.1≠eS):(rM o y).foldl (nO x) (x,[])=(ki o x y,tX o x y) :=
 Eo hx hx0 (rM o y) [] rfl (x,[]) hx hx0 rfl (fun q=>by rw[S4 (by rintro⟨_,h,_⟩; cases h)])
def Hd (s:List ac):Prop:=eN s ∧ ∀ c∈s,bT c.1=true∧jg c.2.1=true
theorem He {s:List ac} (h:bi s=true):Hd s:=⟨(eF.1 h).1,(eF.1 h).2.1⟩
theorem Q8 {s:List ac} (h:Hd s) (hl:s.length≤120):bi s=true:=eF.2 ⟨h.1,h.2,hl⟩
theorem Jz {s:List ac} {q:aA} (h:Hd s) (k:aH q s≠eS):bT q=true∧jg (aH q s)=true:=by
 rcases vu (q:=q) h.1 with⟨c,hc,rfl,hv⟩ | ⟨_,e⟩
 ·rw[←hv]
  exact h.2 c hc
 ·exact V2 e k
theorem OY {a b:List ac} (ha:bi a=true) (hb:bi b=true):(rM a b).length≤240:=by
 have:=P1 a b
 have:=dc ha
 have:=dc hb
 omega
noncomputable def Hf (o x y:List ac):List ac×List aA×Bool :=
 if bi o=true∧bi x=true∧bi y=true then(if tX o x y=[] then(if(ki o x y).length≤120 then(ki o x y,[],true) else([],[],false)) else([],tX o x y,false)) else([],[],false)
theorem P5 {o x y:List ac} (ho:Hd o) (hx:Hd x) (hy:Hd y):Hd (ki o x y):=by
 refine⟨Aq _ _ _,fun c hc => ?_⟩
 obtain⟨_,h2,h3⟩:=qX.1 hc
 rw[h2] at h3 ⊢
 unfold xO at h3 ⊢
 split
 ·rename_i e
  rw[S6 e] at h3
  exact Jz hy h3
 ·rename_i e
  rw[S4 e] at h3
  exact Jz hx h3
section
variable {α R:Type}
def qY (p:α→Bool):List α→Nat→Int
 | [],_ => -1
 | c :: l,n=>if p c=true then(n:Int) else qY p l (n+1)
theorem qZ {p:α→Bool} {s:List α} {d:α} {P:Int→Option R} {F:Int→Option R} (hl:s.length≤1000000000000)
  (hP : ∀ j,P j=if decide (j < (s.length:Int))=true then ix s j d fun y=>if p y=true then F j else P (IntKind.i64.wrap (j+1)) else F (-1)) : ∀(ys pre:List α),s=pre++ys→P (pre.length:Int)=F (qY p ys pre.length)
 | [],pre,h=>by
  rw[hP,ax (bQ h)]
  rfl
 | y :: ys,pre,h=>by
  have ih:=qZ hl hP ys (pre++[y]) (aM h)
  rw[hP,aC (bq h),bk h,aL h (by omega),ih,S5,S3]
  show _=F (if p y=true then(pre.length:Int) else qY p ys (pre.length+1))
  by_cases hp:p y=true
  ·rw[S6 hp,S6 hp]
  ·rw[S4 hp,S4 hp]
theorem Db {p:α→Bool} : ∀ {l:List α} {n:Nat},qY p l n ≠ -1 → ∃ pre x ys,l=pre++x :: ys∧p x=true∧(∀ c∈pre,p c=false)∧qY p l n=((n+pre.length:Nat):Int)
 | [],_,e=>V2 rfl e
 | x :: l,n,e=>by
  unfold qY at e ⊢
  by_cases hx:p x=true
  ·rw[S6 hx]
   exact⟨[],x,l,rfl,hx,(fun c h=>by cases h),rfl⟩
  ·rw[S4 hx] at e ⊢
   obtain⟨pre,z,ys,h1,h2,h3,h4⟩:=Db e
   refine⟨x :: pre,z,ys,by rw[h1]; rfl,h2,?_,?_⟩
   ·intro c hc
    rcases U7.1 hc with rfl | hc
    ·simpa using hx
    ·exact h3 c hc
   ·rw[h4,T3]
    congr 1
    omega
end
section
variable {s:List ac} {r:aA} {x:S0} (hl:s.length≤1000000)
include hl
theorem kD : ∀(ys pre acc:List ac),s=pre++ys→acc.length+ys.length≤1000010→fu s x true (pre.length:Int) r.1 r.2.1 acc=some ((acc++kg r ys,()),())
 | [],pre,acc,h,ha=>by
  rw[mj,ax (bQ h)]
  simp[kg]
 | y :: ys,pre,acc,h,ha=>by
  rw[T3] at ha
  rw[mj,aC (bq h)]
  simp only[Bool.not_true,Bool.false_eq_true,if_false,bk h]
  show(if(!bV cK y.1 r)=true then _ else _)=_
  by_cases e:y.1=r
  ·rw[Ak.mpr e,S4 (by decide),aL h (by omega),kD ys _ acc (aM h) (by omega),zo e]
  ·have e':bV cK y.1 r=false:=by rw[ad_,ne_eq,Ak]; exact e
   rw[e',S6 (by rfl),bA (by simp only[S3]; omega),aL h (by omega),kD ys _ _ (aM h) (by simp only[S5,S3]; omega),sC e]
   simp
theorem xP : ∀(ys pre acc:List ac),s=pre++ys→acc.length+ys.length≤1000000→fu s x false (pre.length:Int) r.1 r.2.1 acc=some ((acc++oH r x ys,()),())
 | [],pre,acc,h,ha=>by
  rw[mj,ax (bQ h),S6 (by rfl),bA (by simp only[S3,V3] at ha ⊢; omega)]
  rfl
 | y :: ys,pre,acc,h,ha=>by
  rw[T3] at ha
  rw[mj,aC (bq h),S6 (by rfl)]
  simp only[bk h,sy,Option.bind_some]
  show(if(!bv y.1 r)=true then _ else _)=_
  unfold oH
  cases k:bv y.1 r with
  | true =>
   have e:=Al k
   have e':bV cK y.1 r=false:=by rw[ad_,ne_eq,Ak]; exact e
   rw[S4 (by decide),S6 rfl]
   show(if(!bV cK y.1 r)=true then _ else _)=_
   rw[e',S6 (by rfl),bA (by simp only[S3]; omega),aL h (by omega),xP ys _ _ (aM h) (by simp only[S5,S3]; omega)]
   simp
  | false =>
   rw[S6 (by decide),S4 (by decide),bA (by simp only[S3]; omega)]
   show(if(!bV cK y.1 r)=true then _ else _)=_
   by_cases e:y.1=r
   ·rw[Ak.mpr e,S4 (by decide),aL h (by omega),kD hl ys _ _ (aM h) (by simp only[S5,S3]; omega),zo e]
    simp
   ·have e':bV cK y.1 r=false:=by rw[ad_,ne_eq,Ak]; exact e
    rw[e',S6 (by rfl),bA (by simp only[S5,S3]; omega),aL h (by omega),kD hl ys _ _ (aM h) (by simp only[S5,S3]; omega),sC e]
    simp
theorem Ep:Bn s r x=some ((iz s r x,()),()):=by
 rw[MB]
 unfold iz
 by_cases hx:x=eS
 ·subst hx
  rw[S6 rfl,show(S2 eS == S2 (⟨#[]⟩:S0))=decide (eS=eS) from j0,U2 rfl]
  exact kD hl s [] [] rfl (by simp only[V3]; omega)
 ·rw[S4 hx]
  have:(S2 x == S2 (⟨#[]⟩:S0))=false:=by
   rw[show(S2 x == S2 (⟨#[]⟩:S0))=decide (x=eS) from j0,U9 hx]
  rw[this]
  exact xP hl s [] [] rfl (by simp only[V3]; omega)
end
section
variable {α:Type}
theorem vy {p:α→Bool} : ∀(l:List α) (n:Nat),decide (qY p l n≥0)=l.any p
 | [],n=>by
  show decide ((-1:Int)≥0)=false
  decide
 | c :: l,n=>by
  unfold qY
  rw[List.any_cons]
  by_cases h:p c=true
  ·rw[S6 h,h,Bool.true_or]
   exact U2 (by omega)
  ·rw[S4 h,vy l (n+1)]
   simp[h]
end
section
variable {α:Type} [DecidableEq α]
def iB:List α→List α→List α
 | t,[]=>t
 | t,k :: ks=>if k∈t then iB t ks else iB (t++[k]) ks
theorem Ng (t:List α) (k:α) (ks:List α):iB t (k :: ks)=if k∈t then iB t ks else iB (t++[k]) ks:=rfl
theorem Ar : ∀(ks t:List α),∃ ex,iB t ks=t++ex
 | [],t=>⟨[],by simp[iB]⟩
 | k :: ks,t=>by
  unfold iB
  split
  ·exact Ar ks t
  ·obtain⟨ex,h⟩:=Ar ks (t++[k])
   exact⟨k :: ex,by rw[h]; simp⟩
theorem lh : ∀(ks t:List α) (j:α),j∈iB t ks↔j∈t∨j∈ks
 | [],t,j=>by simp[iB]
 | k :: ks,t,j=>by
  unfold iB
  by_cases hk:k∈t
  ·rw[S6 hk,lh,U7]
   constructor
   ·rintro(e | e)
    ·exact .inl e
    ·exact .inr (.inr e)
   ·rintro(e | e | e)
    ·exact .inl e
    ·rw[e]
     exact .inl hk
    ·exact .inr e
  ·rw[S4 hk,lh,W1,U4,U7,or_assoc]
theorem pj : ∀(ks t:List α),t.Nodup→(iB t ks).Nodup
 | [],t,h=>h
 | k :: ks,t,h=>by
  unfold iB
  by_cases hk:k∈t
  ·rw[S6 hk]
   exact pj ks t h
  ·rw[S4 hk]
   refine pj ks _ ?_
   rw[List.nodup_append]
   refine⟨h,by simp,fun a ha b hb => ?_⟩
   rw[U4.1 hb]
   exact fun e=>hk (e ▸ ha)
theorem ol : ∀(l m:List α),l.Nodup→(∀ x∈l,x∈m)→l.length≤m.length
 | [],m,_,_=>aa_ _
 | a :: l,m,hd,h=>by
  have hd:=List.nodup_cons.1 hd
  have ha:=h a (by simp)
  have h1:=ol l (m.erase a) hd.2 (fun x hx=>(List.mem_erase_of_ne (a:=x) (b:=a) (fun e:x=a=>hd.1 (e ▸ hx))).2 (h x (T8 _ hx)))
  rw[List.length_erase_of_mem ha] at h1
  have:1≤m.length:=List.length_pos_of_mem ha
  rw[T3]
  omega
end
def mv (up:Int→List Int):Nat→Nat→List Int→List Int
 | 0,_,out=>out
 | n+1,k,out=>match out[k]? with
  | none=>out
  | some x=>mv up n (k+1) (iB out (up x))
section
variable {up:Int→List Int} {U:List Int} (hU : ∀ x∈U,∀ y∈up x,y∈U)
include hU
theorem Hg : ∀(n k:Nat) (out:List Int),out.Nodup→(∀ x∈out,x∈U)→U.length≤k+n→(∀ i x,i < k→out[i]? = some x → ∀ y∈up x,y∈out) →
  (mv up n k out).Nodup∧(∀ x∈mv up n k out,x∈U)∧(∀ x∈out,x∈mv up n k out) ∧ ∀ x∈mv up n k out,∀ y∈up x,y∈mv up n k out
 | 0,k,out,hd,hs,hn,hc=>by
  have hl:=ol _ _ hd hs
  refine⟨hd,hs,fun x h=>h,fun x hx => ?_⟩
  obtain⟨i,hi⟩:=do_ (show x∈out from hx)
  have:=(U0.1 hi).1
  exact hc i x (by omega) hi
 | n+1,k,out,hd,hs,hn,hc=>by
  unfold mv
  cases hk:out[k]? with
  | none =>
   have hl:out.length≤k:=List.getElem?_eq_none_iff.1 hk
   refine⟨hd,hs,fun x h=>h,fun x hx => ?_⟩
   obtain⟨i,hi⟩:=do_ (show x∈out from hx)
   have:=(U0.1 hi).1
   exact hc i x (by omega) hi
  | some x =>
   have hxU:x∈U:=hs x (W4 hk)
   obtain⟨ex,e⟩:=Ar (up x) out
   have hlen:=(U0.1 hk).1
   obtain⟨r1,r2,r3,r4⟩:=Hg n (k+1) (iB out (up x)) (pj _ _ hd) (fun z hz=>((lh _ _ _).1 hz).elim (hs z) (hU x hxU z)) (by omega) (fun i z hi hz y hy=>by
    have hz':out[i]? = some z:=by
     rw[e,List.getElem?_append_left (by omega)] at hz
     exact hz
    refine(lh _ _ _).2 ?_
    by_cases hik:i=k
    ·subst hik
     rw[hk] at hz'
     cases hz'
     exact .inr hy
    ·exact .inl (hc i z (by omega) hz' y hy))
   exact⟨r1,r2,fun z hz=>r3 z ((lh _ _ _).2 (.inl hz)),r4⟩
end
theorem Au {up:Int→List Int} {Q:Int→Prop} (hQ : ∀ x,Q x → ∀ y∈up x,Q y) : ∀(n k:Nat) (out:List Int),(∀ x∈out,Q x) → ∀ x∈mv up n k out,Q x
 | 0,k,out,h=>h
 | n+1,k,out,h=>by
  unfold mv
  cases hk:out[k]? with
  | none=>exact h
  | some x=>exact Au hQ n (k+1) _ fun z hz=>((lh _ _ _).1 hz).elim (h z) (hQ x (h x (W4 hk)) z)
theorem OZ {l m:List Int} (hl:l.Pairwise (· < ·)) (hm:m.Pairwise (· < ·)) (h : ∀ x,x∈l↔x∈m):l=m :=
 xK (lt:=fun a b=>decide (a < b)) (fun x=>U9 (Int.lt_irrefl x)) (fun x y z a b=>U2 (Int.lt_trans (X7 a) (X7 b)))
  (hl.imp fun h=>U2 h) (hm.imp fun h=>U2 h) h
def oI (y:List Int) (x:List Int) (o:Int):Int:=x.foldl (fun o z=>if z∈y then z else o) o
section
variable {α R:Type} {ok:α→Bool} {lt:α→α→Bool}
def wg (ok:α→Bool) (lt:α→α→Bool):Option α→List α→Bool
 | _,[]=>true
 | p,x :: l=>(ok x && (match p with | none=>true | some q=>lt q x)) && wg ok lt (some x) l
theorem Hh {s:List α} {P:Int→R} {T F:R} (hE:P (s.length:Int)=T)
  (hP : ∀ pre y ys,s=pre++y :: ys→P (pre.length:Int)=if(ok y && (match pre.getLast? with | none=>true | some q=>lt q y))=true then P ((pre++[y]).length:Int) else F) :
  ∀ ys pre:List α,s=pre++ys→P (pre.length:Int)=if wg ok lt pre.getLast? ys=true then T else F
 | [],pre,h=>by
  have e:pre=s:=by rw[h]; simp
  rw[e,hE]
  rfl
 | y :: ys,pre,h=>by
  have ih:=Hh hE hP ys (pre++[y]) (by rw[h]; simp)
  rw[show(pre++[y]).getLast? = some y by simp] at ih
  have e:wg ok lt pre.getLast? (y :: ys)=((ok y && (match pre.getLast? with | none=>true | some q=>lt q y)) && wg ok lt (some y) ys):=rfl
  rw[hP pre y ys h,ih,e]
  cases (ok y && (match pre.getLast? with | none=>true | some q=>lt q y)) with
  | false=>rfl
  | true =>
   rw[S6 rfl]
   by_cases hc:wg ok lt (some y) ys=true
   ·rw[S6 hc,S6 (by rw[hc]; rfl)]
   ·rw[S4 hc,S4 (by rw[Bool.true_and]; exact hc)]
theorem Hi {q:List α} {z:α}:(q++[z]).getLast? = some z:=by simp
theorem py {s:List α} {P:Int→R} {T F:R} (hE:P (s.length:Int)=T) (h0 : ∀ y ys,s=y :: ys→P 0=if ok y=true then P 1 else F)
  (h1 : ∀ q z y ys,s=(q++[z])++y :: ys→P ((q++[z]).length:Int)=if(ok y && lt z y)=true then P (((q++[z])++[y]).length:Int) else F):P 0=if wg ok lt none s=true then T else F:=by
 refine Hh hE (fun pre y ys h => ?_) s [] rfl
 rcases List.eq_nil_or_concat pre with hp | ⟨q,z,hp⟩
 ·subst hp
  have:=h0 y ys h
  by_cases hk:ok y=true
  ·rw[S6 hk] at this
   rw[S6 (by rw[hk]; rfl)]
   exact this
  ·rw[S4 hk] at this
   rw[S4 (fun e=>hk (by simpa using e))]
   exact this
 ·rw[List.concat_eq_append] at hp
  subst hp
  have:=h1 q z y ys h
  by_cases hk:(ok y && lt z y)=true
  ·rw[S6 hk] at this
   rw[S6 (by rw[Hi]; exact hk)]
   exact this
  ·rw[S4 hk] at this
   rw[S4 (fun e=>hk (by rw[Hi] at e; exact e))]
   exact this
theorem yz (ht : ∀ a b c,lt a b=true→lt b c=true→lt a c=true) : ∀ {l:List α} {p:Option α},wg ok lt p l=true↔(∀ x∈l,ok x=true)∧l.Pairwise (fun a b=>lt a b=true) ∧ ∀ q,p=some q → ∀ x∈l,lt q x=true
 | [],p=>by simp[wg]
 | y :: l,p=>by
  have ih:=yz ht (l:=l) (p:=some y)
  unfold wg
  rw[S8,S8,ih]
  constructor
  ·rintro⟨⟨h1,h2⟩,h3,h4,h5⟩
   refine⟨fun x hx => ?_,V7.2 ⟨fun x hx=>h5 y rfl x hx,h4⟩,fun q hq x hx => ?_⟩
   ·rcases U7.1 hx with rfl | hx
    ·exact h1
    ·exact h3 x hx
   ·subst hq
    rcases U7.1 hx with rfl | hx
    ·exact h2
    ·exact ht _ _ _ h2 (h5 y rfl x hx)
  ·rintro⟨h1,h2,h3⟩
   obtain⟨h4,h5⟩:=V7.1 h2
   refine⟨⟨h1 y (by simp),?_⟩,fun x hx=>h1 x (T8 _ hx),h5,fun q hq x hx => ?_⟩
   ·cases p with
    | none=>rfl
    | some q=>exact h3 q rfl y (by simp)
   ·cases hq
    exact h4 x hx
end
def mE (x:S0):Bool:=decide (1≤x.size) && (decide (x.size≤12) && (lb x).all fun b=>decide (97≤b.toNat) && decide (b.toNat≤122))
def fV (a b:S0):Bool:=Op.bytesLess a.toList b.toList
theorem Nh : ∀ l:List UInt8,Op.bytesLess l l=false
 | []=>rfl
 | a :: l=>by simp[Op.bytesLess,Nh l]
theorem Hj : ∀ {a b c:List UInt8},Op.bytesLess a b=true→Op.bytesLess b c=true→Op.bytesLess a c=true
 | [],[],_,h,_=>by cases h
 | [],_ :: _,[],_,k=>by cases k
 | [],_ :: _,_ :: _,_,_=>rfl
 | _ :: _,[],_,h,_=>by cases h
 | _ :: _,_ :: _,[],_,k=>by cases k
 | x :: a,y :: b,z :: c,h,k=>by
  have ih := @Hj a b c
  simp only[Op.bytesLess,bd_,S8,T0,beq_iff_eq] at h k ⊢
  rcases h with h | ⟨h1,h2⟩
  ·rcases k with k | ⟨k1,k2⟩
   ·exact .inl (UInt8.lt_trans h k)
   ·exact .inl (k1 ▸ h)
  ·rcases k with k | ⟨k1,k2⟩
   ·exact .inl (h1 ▸ k)
   ·exact .inr ⟨h1.trans k1,ih h2 k2⟩
theorem Ni : ∀ {a b:List UInt8},Op.bytesLess a b=false→Op.bytesLess b a=false→a=b
 | [],[],_,_=>rfl
 | [],_ :: _,h,_=>by cases h
 | _ :: _,[],_,k=>by cases k
 | x :: a,y :: b,h,k=>by
  have ih := @Ni a b
  simp only[Op.bytesLess,cl_,Bool.and_eq_false_iff,decide_eq_false_iff_not,beq_eq_false_iff_ne] at h k
  have e:x=y:=UInt8.le_antisymm (UInt8.not_lt.1 k.1) (UInt8.not_lt.1 h.1)
  subst e
  rw[ih (h.2.resolve_left fun h=>h rfl) (k.2.resolve_left fun h=>h rfl)]
theorem tY (a:S0):fV a a=false:=Nh _
theorem xQ {a b c:S0} (h:fV a b=true) (k:fV b c=true):fV a c=true:=Hj h k
def cB (vs:List ag) (id:Int):Bool:=vs.any fun v=>v.1 == id
def q4 (vs:List ag) (id:Int):Int:=qY (fun v=>v.1 == id) vs 0
def q5 (vs:List ag) (id:Int) (l:List Int):Bool:=wg (fun u=>decide (u < id) && cB vs u) (fun a b=>decide (a < b)) none l
noncomputable def xR (vs:List ag) (nx:Int) (v:ag):Bool:=cl v.1 1 (nx - 1) && (decide (v.2.1.length≤2) && (q5 vs v.1 v.2.1 && bi v.2.2.1))
noncomputable def Dc (vs:List ag) (nx:Int):Bool:=wg (xR vs nx) (fun a b=>decide (a.1 < b.1)) none vs
def sE (vs:List ag) (bs:List ah):Bool:=wg (fun b=>mE b.1 && cB vs b.2.1) (fun a b=>fV a.1 b.1) none bs
noncomputable def gG (d:aO):Bool:=cl d.1 2 1000000000 && (cl (d.2.1.length:Int) 1 40 && (cl (d.2.2.1.length:Int) 1 8 && (Dc d.2.1 d.1 && sE d.2.1 d.2.2.1)))
theorem fQ {vs:List ag} {id:Int}:cB vs id=true↔id∈vs.map (·.1):=by
 unfold cB
 rw[bv_,Z1]
 constructor
 ·rintro⟨v,h1,h2⟩
  exact⟨v,h1,by simpa using h2⟩
 ·rintro⟨v,h1,h2⟩
  exact⟨v,h1,by simpa using h2⟩
theorem Av {vs:List ag} {id:Int}:decide (q4 vs id≥0)=cB vs id:=vy vs 0
theorem O0 {vs:List ag} {id:Int} {l:List Int}:q5 vs id l=true↔(∀ u∈l,u < id∧cB vs u=true)∧l.Pairwise (· < ·):=by
 unfold q5
 rw[yz (lt:=fun a b:Int=>decide (a < b)) (fun a b c h k=>U2 (Int.lt_trans (X7 h) (X7 k)))]
 simp only[S8,T0]
 constructor
 ·rintro⟨h1,h2,_⟩
  exact⟨h1,h2⟩
 ·rintro⟨h1,h2⟩
  exact⟨h1,h2,fun q hq=>by cases hq⟩
structure bS (d:aO):Prop where
 nx:2≤d.1∧d.1≤1000000000
 vl:1≤d.2.1.length∧d.2.1.length≤40
 bl:1≤d.2.2.1.length∧d.2.2.1.length≤8
 id : ∀ v∈d.2.1,1≤v.1∧v.1≤d.1 - 1
 up : ∀ v∈d.2.1,v.2.1.length≤2∧(∀ u∈v.2.1,u < v.1∧cB d.2.1 u=true)∧v.2.1.Pairwise (· < ·)
 sh : ∀ v∈d.2.1,bi v.2.2.1=true
 vr:d.2.1.Pairwise fun a b=>a.1 < b.1
 br : ∀ b∈d.2.2.1,mE b.1=true∧cB d.2.1 b.2.1=true
 bs:d.2.2.1.Pairwise fun a b=>fV a.1 b.1=true
theorem co {d:aO}:gG d=true↔bS d:=by
 unfold gG Dc sE
 simp only[S8]
 rw[yz (lt:=fun a b:ag=>decide (a.1 < b.1)) (fun a b c h k=>U2 (Int.lt_trans (X7 h) (X7 k))),yz (lt:=fun a b:ah=>fV a.1 b.1) (fun a b c h k=>xQ h k),bU,bU,bU]
 simp only[xR,S8,T0,bU,O0]
 constructor
 ·rintro⟨h1,h2,h3,⟨h4,h5,_⟩,h6,h7,_⟩
  exact⟨h1,by omega,by omega,fun v hv=>(h4 v hv).1,fun v hv=>⟨(h4 v hv).2.1,(h4 v hv).2.2.1⟩,fun v hv=>(h4 v hv).2.2.2,h5,h6,h7⟩
 ·intro h
  have h2:=h.vl
  have h3:=h.bl
  exact⟨h.nx,by omega,by omega,⟨fun v hv=>⟨h.id v hv,(h.up v hv).1,(h.up v hv).2,h.sh v hv⟩,h.vr,fun q hq=>by cases hq⟩,h.br,h.bs,fun q hq=>by cases hq⟩
def rO (vs:List ag) (x:Int):List Int:=match vs.find? (fun v=>v.1 == x) with
 | some v=>v.2.1
 | none=>[]
def ct (vs:List ag):List Int:=vs.map (·.1)
theorem JA {vs:List ag} (h:vs.Pairwise fun a b=>a.1 < b.1) {v:ag} (hv:v∈vs):vs.find? (fun w=>w.1 == v.1)=some v:=by
 induction vs with
 | nil=>cases hv
 | cons w vs ih =>
  obtain⟨h1,h2⟩:=V7.1 h
  rw[List.find?_cons]
  rcases U7.1 hv with rfl | hv
  ·simp
  ·have:=h1 v hv
   have hne:(w.1 == v.1)=false:=by
    rw[beq_eq_false_iff_ne]
    omega
   rw[hne]
   exact ih h2 hv
theorem tZ {vs:List ag} (h:vs.Pairwise fun a b=>a.1 < b.1) {v:ag} (hv:v∈vs):rO vs v.1=v.2.1:=by
 unfold rO
 rw[JA h hv]
theorem bS.closed {d:aO} (h:bS d) : ∀ x∈ct d.2.1,∀ y∈rO d.2.1 x,y∈ct d.2.1:=by
 intro x hx y hy
 obtain⟨v,hv,rfl⟩:=Z1.1 hx
 rw[tZ h.vr hv] at hy
 exact fQ.1 ((h.up v hv).2.1 y hy).2
theorem bS.rise {d:aO} (h:bS d):(ct d.2.1).Pairwise (· < ·):=by
 unfold ct
 rw[ba_]
 exact h.vr
theorem bS.below {d:aO} (h:bS d) : ∀ x∈ct d.2.1,∀ y∈rO d.2.1 x,y < x:=by
 intro x hx y hy
 obtain⟨v,hv,rfl⟩:=Z1.1 hx
 rw[tZ h.vr hv] at hy
 exact((h.up v hv).2.1 y hy).1
def li (vs:List ag) (id:Int):List Int:=mv (rO vs) (vs.length+1) 0 [id]
def cF (vs:List ag) (id:Int):List Int:=(ct vs).filter fun x=>decide (x∈li vs id)
section
variable {d:aO} (h:bS d) {a:Int} (ha:a∈ct d.2.1)
include h ha
theorem pz:(li d.2.1 a).Nodup∧(∀ x∈li d.2.1 a,x∈ct d.2.1)∧a∈li d.2.1 a ∧ ∀ x∈li d.2.1 a,∀ y∈rO d.2.1 x,y∈li d.2.1 a:=by
 obtain⟨h1,h2,h3,h4⟩:=Hg h.closed (d.2.1.length+1) 0 [a] (by simp) (fun x hx=>by rw[U4.1 hx]; exact ha) (by unfold ct; rw[X6]; omega) (fun i x hi=>by omega)
 exact⟨h1,h2,h3 a (by simp),h4⟩
theorem Aw (x:Int):x∈cF d.2.1 a↔x∈li d.2.1 a:=by
 unfold cF
 rw[cc_,T0]
 exact⟨fun h=>h.2,fun hx=>⟨(pz h ha).2.1 x hx,hx⟩⟩
theorem Nj:(cF d.2.1 a).Pairwise (· < ·):=co_ _ h.rise
theorem O1:(li d.2.1 a).mergeSort (fun x y=>decide (x≤y))=cF d.2.1 a:=by
 have hs:=List.pairwise_mergeSort (le:=fun x y:Int=>decide (x≤y)) (fun a b c h k=>by simp only[T0] at *; omega) (fun a b=>by simp only[bd_,T0]; omega) (li d.2.1 a)
 have hp:=List.mergeSort_perm (li d.2.1 a) (fun x y=>decide (x≤y))
 have hn:((li d.2.1 a).mergeSort (fun x y=>decide (x≤y))).Nodup:=hp.nodup_iff.2 (pz h ha).1
 refine OZ ?_ (Nj h ha) fun x => ?_
 ·refine(hs.and hn).imp fun {x y} hxy => ?_
  have h1:=X7 hxy.1
  have h2:=hxy.2
  omega
 ·rw[hp.mem_iff,Aw h ha]
end
def bb (bs:List ah) (n:S0):Int:=match bs.find? (fun b=>decide (b.1=n)) with
 | some b=>b.2.1
 | none=>0
def dB (bs:List ah) (n:S0):Bool:=bs.any fun b=>decide (b.1=n)
def et (bs:List ah) (n:S0) (h:Int):List ah:=bs.map fun b=>if b.1=n then(b.1,h,()) else b
def dG (vs:List ag) (x:Int):List ac:=match vs.find? (fun v=>v.1 == x) with
 | some v=>v.2.2.1
 | none=>[]
def cI (d:aO) (n:S0) (us:List Int) (s:List ac):aO:=(d.1+1,d.2.1++[(d.1,us,s,())],et d.2.2.1 n d.1,())
def nf (d:aO):Bool:=decide (d.2.1.length=40) || decide (d.1=1000000000)
def O2:aO:=(0,[],[],())
theorem Er {bs:List ah} {n:S0}:dB bs n=(bs.find? (fun b=>decide (b.1=n))).isSome:=by
 unfold dB
 rw[Bool.eq_iff_iff,bv_,List.find?_isSome]
theorem Dd {bs:List ah} {n:S0} (h:dB bs n=true) : ∃ b∈bs,b.1=n∧bb bs n=b.2.1:=by
 rw[Er] at h
 obtain⟨b,hb⟩:=Option.isSome_iff_exists.1 h
 refine⟨b,cm_ hb,?_,?_⟩
 ·have:=List.find?_some hb
  exact X7 this
 ·unfold bb
  rw[hb]
theorem JB {bs:List ah} {n:S0} (h:dB bs n=false):bb bs n=0:=by
 rw[Er] at h
 unfold bb
 cases hf:bs.find? (fun b=>decide (b.1=n)) with
 | none=>rfl
 | some b=>rw[hf] at h; cases h
theorem Hk {bs:List ah} {n:S0} {h:Int}:(et bs n h).map (·.1)=bs.map (·.1):=by
 unfold et
 rw[List.map_map]
 refine List.map_congr_left fun b _ => ?_
 show(if b.1=n then(b.1,h,()) else b:ah).1=b.1
 split <;> rfl
theorem Hl {bs:List ah} {n:S0} {h:Int} {b:ah} (hb:b∈et bs n h):(∃ c∈bs,c.1=b.1)∧(b.2.1=h∨b∈bs):=by
 unfold et at hb
 obtain⟨c,hc,rfl⟩:=Z1.1 hb
 by_cases e:c.1=n
 ·rw[S6 e]
  exact⟨⟨c,hc,rfl⟩,.inl rfl⟩
 ·rw[S4 e]
  exact⟨⟨c,hc,rfl⟩,.inr hc⟩
section
variable {d:aO} (h:bS d)
include h
theorem bS.head {n:S0} (hn:dB d.2.2.1 n=true):bb d.2.2.1 n∈ct d.2.1∧1≤bb d.2.2.1 n:=by
 obtain⟨b,hb,_,e⟩:=Dd hn
 rw[e]
 have:=fQ.1 (h.br b hb).2
 obtain⟨v,hv,hh⟩:=Z1.1 this
 exact⟨this,by rw[←hh]; exact(h.id v hv).1⟩
theorem bS.hd0 (n:S0):bb d.2.2.1 n=0↔dB d.2.2.1 n=false:=by
 cases hn:dB d.2.2.1 n with
 | false=>simp[JB hn]
 | true =>
  have:=(h.head hn).2
  simp
  omega
theorem bS.moved {n:S0} {x:Int} (hx:x∈ct d.2.1):bS (d.1,d.2.1,et d.2.2.1 n x,()):=by
 have hl:(et d.2.2.1 n x).length=d.2.2.1.length:=by
  unfold et
  rw[X6]
 refine⟨h.nx,h.vl,by show 1≤(et d.2.2.1 n x).length∧(et d.2.2.1 n x).length≤8; rw[hl]; exact h.bl,h.id,h.up,h.sh,h.vr,fun b hb => ?_,?_⟩
 ·obtain⟨⟨c,hc,e⟩,h2⟩:=Hl hb
  refine⟨by rw[←e]; exact(h.br c hc).1,?_⟩
  rcases h2 with h2 | h2
  ·rw[h2]
   exact fQ.2 hx
  ·exact(h.br b h2).2
 ·have:=h.bs
  have h1:(d.2.2.1.map (·.1)).Pairwise fun a b=>fV a b=true:=ba_.2 this
  rw[←Hk (n:=n) (h:=x)] at h1
  exact ba_.1 h1
theorem bS.new_id:d.1 ∉ ct d.2.1:=by
 intro hd
 obtain⟨v,hv,e⟩:=Z1.1 hd
 have:=(h.id v hv).2
 omega
theorem Ax {vs:List ag} {v:ag} {x:Int}:cB (vs++[v]) x=(cB vs x || v.1 == x):=by
 unfold cB
 rw[List.any_append]
 simp
theorem bS.grown {n:S0} {us:List Int} {s:List ac} (hf:nf d=false) (hu:us.length≤2) (hus : ∀ u∈us,u∈ct d.2.1) (hur:us.Pairwise (· < ·)) (hs:bi s=true):bS (cI d n us s):=by
 unfold nf at hf
 rw[cl_,decide_eq_false_iff_not,decide_eq_false_iff_not] at hf
 have h1:=h.nx
 have h2:=h.vl
 have hlt : ∀ x∈ct d.2.1,x < d.1:=fun x hx=>by
  obtain⟨v,hv,rfl⟩:=Z1.1 hx
  have:=(h.id v hv).2
  omega
 have hl:(et d.2.2.1 n d.1).length=d.2.2.1.length:=by
  unfold et
  rw[X6]
 refine⟨by show 2≤d.1+1∧d.1+1≤1000000000; omega,by show 1≤(d.2.1++[_]).length∧(d.2.1++[_]).length≤40; rw[S5,S3]; omega,by show 1≤(et d.2.2.1 n d.1).length∧(et d.2.2.1 n d.1).length≤8; rw[hl]; exact h.bl,fun v hv => ?_,fun v hv => ?_,fun v hv => ?_,?_,fun b hb => ?_,?_⟩
 ·show 1≤v.1∧v.1≤d.1+1 - 1
  rcases W1.1 hv with hv | hv
  ·have:=h.id v hv
   omega
  ·rw[U4.1 hv]
   show 1≤d.1∧d.1≤d.1+1 - 1
   omega
 ·rcases W1.1 hv with hv | hv
  ·obtain⟨k1,k2,k3⟩:=h.up v hv
   refine⟨k1,fun u hu=>⟨(k2 u hu).1,?_⟩,k3⟩
   show cB (d.2.1++[_]) u=true
   rw[Ax h,(k2 u hu).2,Bool.true_or]
  ·rw[U4.1 hv]
   refine⟨hu,fun u hu'=>⟨hlt u (hus u hu'),?_⟩,hur⟩
   show cB (d.2.1++[_]) u=true
   rw[Ax h,fQ.2 (hus u hu'),Bool.true_or]
 ·rcases W1.1 hv with hv | hv
  ·exact h.sh v hv
  ·rw[U4.1 hv]
   exact hs
 ·show(d.2.1++[(d.1,us,s,())]).Pairwise fun a b=>a.1 < b.1
  refine dq_.2 ⟨h.vr,am_ _ _,fun a ha b hb => ?_⟩
  rw[U4.1 hb]
  exact hlt _ (Z1.2 ⟨a,ha,rfl⟩)
 ·obtain⟨⟨c,hc,e⟩,k⟩:=Hl hb
  refine⟨by rw[←e]; exact(h.br c hc).1,?_⟩
  show cB (d.2.1++[_]) b.2.1=true
  rw[Ax h]
  rcases k with k | k
  ·rw[k]
   simp
  ·rw[(h.br b k).2,Bool.true_or]
 ·have h1:(d.2.2.1.map (·.1)).Pairwise fun a b=>fV a b=true:=ba_.2 h.bs
  rw[←Hk (n:=n) (h:=d.1)] at h1
  exact ba_.1 h1
end
noncomputable def q6 (d:aO) (n:S0) (s:List ac):aO×Int×Int :=
 if gG d=true then(if dB d.2.2.1 n=true then(if bi s=true then(if nf d=true then(d,0,5) else(cI d n [bb d.2.2.1 n] s,d.1,0)) else(d,0,4)) else(d,0,2)) else(O2,0,1)
theorem Q9 {d:aO} (h:bS d) (n:S0) (s:List ac):bS (q6 d n s).1:=by
 unfold q6
 rw[S6 (co.2 h)]
 by_cases h1:dB d.2.2.1 n=true
 ·rw[S6 h1]
  by_cases h2:bi s=true
  ·rw[S6 h2]
   by_cases h3:nf d=true
   ·rw[S6 h3]
    exact h
   ·rw[S4 h3]
    exact h.grown (by simpa using h3) (by simp) (fun u hu=>by rw[U4.1 hu]; exact(h.head h1).1) (am_ _ _) h2
  ·rw[S4 h2]
   exact h
 ·rw[S4 h1]
  exact h
def ng (n:S0) (x:Int):List ah→List ah
 | []=>[(n,x,())]
 | b :: l=>if fV n b.1=true then(n,x,()) :: b :: l else b :: ng n x l
noncomputable def Nk (d:aO) (n:S0) (x:Int):aO×Int :=
 if gG d=true then(if mE n=false∨dB d.2.2.1 n=true then(d,7) else if cB d.2.1 x=false then(d,3) else if d.2.2.1.length=8 then(d,5) else((d.1,d.2.1,ng n x d.2.2.1,()),0)) else(O2,1)
theorem Ay {n:S0} {x:Int} {b:ah} : ∀ {l:List ah},b∈ng n x l↔b=(n,x,())∨b∈l
 | []=>by simp[ng]
 | c :: l=>by
  unfold ng
  split
  ·simp
  ·rw[U7,Ay,U7]
   constructor
   ·rintro(h | h | h)
    ·exact .inr (.inl h)
    ·exact .inl h
    ·exact .inr (.inr h)
   ·rintro(h | h | h)
    ·exact .inr (.inl h)
    ·exact .inl h
    ·exact .inr (.inr h)
theorem Hm {n:S0} {x:Int} : ∀ {l:List ah},(ng n x l).length=l.length+1
 | []=>rfl
 | c :: l=>by
  unfold ng
  split
  ·rfl
  ·rw[T3,Hm]
   rfl
theorem JC {a b:S0} (h:fV a b=false) (hne:b≠a):fV b a=true:=by
 cases hb:fV b a with
 | true=>rfl
 | false =>
  exfalso
  have e:=Ni h hb
  apply hne
  have e2:a.toList=b.toList:=e
  have := @j0 b a
  rw[e2] at this
  simpa using this
theorem Es {n:S0} {x:Int} : ∀ {l:List ah},(l.Pairwise fun a b=>fV a.1 b.1=true)→(∀ b∈l,b.1≠n)→(ng n x l).Pairwise fun a b=>fV a.1 b.1=true
 | [],_,_=>am_ _ _
 | c :: l,h,hn=>by
  obtain⟨h1,h2⟩:=V7.1 h
  unfold ng
  split
  ·rename_i hc
   refine V7.2 ⟨fun b hb => ?_,h⟩
   rcases U7.1 hb with rfl | hb
   ·exact hc
   ·exact xQ hc (h1 b hb)
  ·rename_i hc
   refine V7.2 ⟨fun b hb => ?_,Es h2 fun b hb=>hn b (T8 _ hb)⟩
   rcases Ay.1 hb with rfl | hb
   ·exact JC (by simpa using hc) (hn c (by simp))
   ·exact h1 b hb
theorem Ra {d:aO} (h:bS d) (n:S0) (x:Int):bS (Nk d n x).1:=by
 unfold Nk
 rw[S6 (co.2 h)]
 split
 ·exact h
 ·rename_i h1
  split
  ·exact h
  ·rename_i h2
   split
   ·exact h
   ·rename_i h3
    have h4:=h.bl
    have hn:mE n=true:=by
     cases hh:mE n with
     | true=>rfl
     | false=>exact V2 (.inl hh) h1
    have hb:dB d.2.2.1 n=false:=by
     cases hh:dB d.2.2.1 n with
     | false=>rfl
     | true=>exact V2 (.inr hh) h1
    refine⟨h.nx,h.vl,by show 1≤(ng n x d.2.2.1).length∧(ng n x d.2.2.1).length≤8; rw[Hm]; omega,h.id,h.up,h.sh,h.vr,fun b hb => ?_,Es h.bs fun b hb' => ?_⟩
    ·rcases Ay.1 hb with rfl | hb
     ·exact⟨hn,by simpa using h2⟩
     ·exact h.br b hb
    ·intro e
     unfold dB at hb
     rw[List.any_eq_false] at hb
     exact hb b hb' (U2 e)
noncomputable def JD (d:aO) (m n:S0):aO×List aA×Int :=
 if gG d=true then
  (if dB d.2.2.1 m=true∧dB d.2.2.1 n=true then
   (if bb d.2.2.1 n∈cF d.2.1 (bb d.2.2.1 m) then(d,[],0)
   else if bb d.2.2.1 m∈cF d.2.1 (bb d.2.2.1 n) then((d.1,d.2.1,et d.2.2.1 m (bb d.2.2.1 n),()),[],0)
   else
    (if tX (dG d.2.1 (oI (cF d.2.1 (bb d.2.2.1 n)) (cF d.2.1 (bb d.2.2.1 m)) 0)) (dG d.2.1 (bb d.2.2.1 m)) (dG d.2.1 (bb d.2.2.1 n))≠[] then(d,tX (dG d.2.1 (oI (cF d.2.1 (bb d.2.2.1 n)) (cF d.2.1 (bb d.2.2.1 m)) 0)) (dG d.2.1 (bb d.2.2.1 m)) (dG d.2.1 (bb d.2.2.1 n)),6)
    else if 120 < (ki (dG d.2.1 (oI (cF d.2.1 (bb d.2.2.1 n)) (cF d.2.1 (bb d.2.2.1 m)) 0)) (dG d.2.1 (bb d.2.2.1 m)) (dG d.2.1 (bb d.2.2.1 n))).length then(d,[],4)
    else if nf d=true then(d,[],5)
    else(cI d m [min (bb d.2.2.1 m) (bb d.2.2.1 n),max (bb d.2.2.1 m) (bb d.2.2.1 n)] (ki (dG d.2.1 (oI (cF d.2.1 (bb d.2.2.1 n)) (cF d.2.1 (bb d.2.2.1 m)) 0)) (dG d.2.1 (bb d.2.2.1 m)) (dG d.2.1 (bb d.2.2.1 n))),[],0)))
  else(d,[],2))
 else(O2,[],1)
theorem yA {vs:List ag} (h:vs.Pairwise fun a b=>a.1 < b.1) {v:ag} (hv:v∈vs):dG vs v.1=v.2.2.1:=by
 unfold dG
 rw[JA h hv]
theorem bS.sheet {d:aO} (h:bS d) (x:Int):bi (dG d.2.1 x)=true:=by
 unfold dG
 cases hf:d.2.1.find? (fun v=>v.1 == x) with
 | none=>exact eF.2 ⟨br_,(fun c hc=>by cases hc),aa_ _⟩
 | some v=>exact h.sh v (cm_ hf)
theorem Rb {d:aO} (h:bS d) (m n:S0):bS (JD d m n).1:=by
 unfold JD
 rw[S6 (co.2 h)]
 by_cases h1:dB d.2.2.1 m=true∧dB d.2.2.1 n=true
 ·rw[S6 h1]
  have ha:=h.head h1.1
  have hb:=h.head h1.2
  generalize bb d.2.2.1 m=a at *
  generalize bb d.2.2.1 n=b at *
  by_cases h2:b∈cF d.2.1 a
  ·rw[S6 h2]
   exact h
  ·rw[S4 h2]
   by_cases h3:a∈cF d.2.1 b
   ·rw[S6 h3]
    exact h.moved hb.1
   ·rw[S4 h3]
    have hab:a≠b:=by
     rintro rfl
     exact h2 ((Aw h ha.1 a).2 (pz h ha.1).2.2.1)
    have ho:=He (h.sheet (oI (cF d.2.1 b) (cF d.2.1 a) 0))
    have hx:=He (h.sheet a)
    have hy:=He (h.sheet b)
    generalize dG d.2.1 (oI (cF d.2.1 b) (cF d.2.1 a) 0)=o at *
    generalize dG d.2.1 a=x at *
    generalize dG d.2.1 b=y at *
    split
    ·exact h
    ·split
     ·exact h
     ·rename_i hlen
      split
      ·exact h
      ·rename_i hf
       refine h.grown (by simpa using hf) (by simp) (fun u hu => ?_) ?_ (Q8 (P5 ho hx hy) (by omega))
       ·rcases U7.1 hu with e | hu
        ·rw[e,Int.min_def]
         split
         ·exact ha.1
         ·exact hb.1
        ·rw[U4.1 hu,Int.max_def]
         split
         ·exact hb.1
         ·exact ha.1
       ·refine V7.2 ⟨fun u hu => ?_,am_ _ _⟩
        rw[U4.1 hu]
        omega
 ·rw[S4 h1]
  exact h
section
variable {d:aO} (h:bS d)
include h
end
end Go.Proofs.YtfffplonjaigkaaGreatDoor.Abs
