/- Plain laws: sheets as rows in order: what is taken out, what is put in, what lies at a place. -/
import Derived.Test.YthbkdfcmjmmpgaaGreatDoorZM9
import Derived.Test.YthbkdfcmjmmpgaaGreatDoorZM8
set_option linter.unusedVariables false
set_option linter.unusedSimpArgs false
set_option linter.unusedSectionVars false
open Bool renaming and_eq_true→ah_,eq_false_iff→cm_,false_eq_true→aj_,not_true→bc_
open ByteArray renaming toList→ag_
open Go.IntKind renaming i64→hb_,wrap→ha_
open Int renaming toNat→ap_
open List renaming filter_cons_of_neg→et_,getD→au_,head?_cons→db_,length_append→ae_,length_cons→ak_,length_filter_le→en_,length_nil→bi_,length_pos_iff→ew_,length_singleton→ac_,length→al_,mem_append→bo_,mem_cons_of_mem→ar_,mem_cons→bb_,pairwise_cons→bq_
open Nat renaming le_trans→bn_
open Option renaming bind_some→ab_
open Option.some renaming injEq→bg_
open _root_ renaming ByteArray→aa_,absurd→bk_,congrArg→an_,decide_eq_false→be_,decide_eq_true_eq→ai_,decide_eq_true→bd_,if_false→aw_,if_neg→ad_,if_pos→af_,if_true→ba_
namespace Go.Proofs.YthbkdfcmjmmpgaaGreatDoor.Abs
open Go
theorem O0 {α:Type} {lt:α→α→Bool} (hi : ∀ x,lt x x=false) (ht : ∀ x y z,lt x y=true→lt y z=true→lt x z=true) : ∀ {l m:List α},(l.Pairwise fun a b=>lt a b=true)→(m.Pairwise fun a b=>lt a b=true)→(∀ x,x∈l↔x∈m)→l=m
 | [],[],_,_,_=>rfl
 | [],y :: m,_,_,h=>by have:=(h y).2 (by simp); cases this
 | x :: l,[],_,_,h=>by have:=(h x).1 (by simp); cases this
 | x :: l,y :: m,hl,hm,h=>by
  rw[bq_] at hl hm
  have hxy:x=y:=by
   rcases bb_.1 ((h x).1 (by simp)) with e | hx
   ·exact e
   ·rcases bb_.1 ((h y).2 (by simp)) with e | hy
    ·exact e.symm
    ·have:=ht _ _ _ (hl.1 y hy) (hm.1 x hx)
     rw[hi] at this
     cases this
  subst hxy
  congr 1
  refine O0 hi ht hl.2 hm.2 fun z=>⟨fun hz => ?_,fun hz => ?_⟩
  ·rcases bb_.1 ((h z).1 (ar_ _ hz)) with e | hz'
   ·subst e
    have:=hl.1 z hz
    rw[hi] at this
    cases this
   ·exact hz'
  ·rcases bb_.1 ((h z).2 (ar_ _ hz)) with e | hz'
   ·subst e
    have:=hm.1 z hz
    rw[hi] at this
    cases this
   ·exact hz'
theorem pC {a b:ah}:bM a b=true↔a.2.1 < b.2.1∨(a.2.1=b.2.1∧a.1 < b.1):=by
 unfold bM
 simp
theorem qB (a:ah):bM a a=false:=by
 rw[cm_]
 intro h
 have:=pC.1 h
 omega
theorem gm {a b c:ah} (h:bM a b=true) (k:bM b c=true):bM a c=true:=by
 have:=pC.1 h
 have:=pC.1 k
 rw[pC]
 omega
theorem ZV {a b:ah} (h1:a.1=b.1) (h2:a.2.1=b.2.1):a=b:=Prod.ext h1 (Prod.ext h2 rfl)
theorem oa (a b:ah):bM a b=true∨a=b∨bM b a=true:=by
 rw[pC,pC]
 by_cases h:a=b
 ·exact .inr (.inl h)
 ·by_cases h2:a.2.1=b.2.1
  ·have:a.1≠b.1:=fun e=>h (ZV e h2)
   omega
  ·omega
theorem vz {a b:ah} (h:bM a b=true):a≠b:=by
 rintro rfl
 rw[qB] at h
 cases h
def jj (s:List ae):Prop:=s.Pairwise fun a b=>bM a.1 b.1=true
theorem RF : ∀ {s:List ae} {o:Option ae},C5 o s=true↔(∀ p,o=some p → ∀ c∈s,bM p.1 c.1=true)∧jj s ∧ ∀ c∈s,bT c.1=true∧fO c.2.1=true
 | [],o=>by simp[C5,jj]
 | c :: l,o=>by
  have ih:=RF (s:=l) (o:=some c)
  simp only[C5,ah_,ih]
  constructor
  ·rintro⟨⟨⟨h1,h2⟩,h3⟩,h4,h5,h6⟩
   refine⟨?_,bq_.2 ⟨fun d hd=>h4 c rfl d hd,h5⟩,?_⟩
   ·rintro p rfl d hd
    have h3:bM p.1 c.1=true:=h3
    rcases bb_.1 hd with rfl | hd
    ·exact h3
    ·exact gm h3 (h4 c rfl d hd)
   ·intro d hd
    rcases bb_.1 hd with rfl | hd
    ·exact⟨h1,h2⟩
    ·exact h6 d hd
  ·rintro⟨h1,h2,h3⟩
   have h2:=bq_.1 h2
   refine⟨⟨h3 c (by simp),?_⟩,?_,h2.2,fun d hd=>h3 d (ar_ _ hd)⟩
   ·cases o with
    | none=>rfl
    | some p=>exact h1 p rfl c (by simp)
   ·rintro p hp d hd
    cases hp
    exact h2.1 d hd
theorem ob {s:List ae}:be s=true↔jj s∧(∀ c∈s,bT c.1=true∧fO c.2.1=true)∧s.length≤120:=by
 unfold be
 rw[ah_,RF,ai_]
 constructor
 ·rintro⟨⟨_,h1,h2⟩,h3⟩
  exact⟨h1,h2,h3⟩
 ·rintro⟨h1,h2,h3⟩
  exact⟨⟨(fun p hp=>by cases hp),h1,h2⟩,h3⟩
theorem C7 {x:aa_}:fO x=true↔(eK x).2=true∧x≠eS∧(eK x).1=x:=by
 unfold fO
 simp[ah_,and_assoc]
theorem KS (x:aa_):(eK x).1.size≤200:=by
 by_cases h:x.size≤9223372036854775807
 ·exact(mC h).2.2
 ·unfold eK
  rw[dif_neg h]
  decide
theorem AH {x:aa_} (h:fO x=true):x.size≤200:=by
 have:=KS x
 rw[(C7.1 h).2.2] at this
 exact this
def jk (r:ah) (s:List ae):List ae:=s.filter fun c => !decide (c.1=r)
def ry (r:ah) (x:aa_):List ae→List ae
 | []=>[(r,x,())]
 | c :: l=>if bM c.1 r=true then c :: ry r x l else(r,x,()) :: jk r (c :: l)
noncomputable def jc (s:List ae) (r:ah) (x:aa_):List ae:=if x=eS then jk r s else ry r x s
theorem Je {r:ah} {s:List ae} {c:ae}:c∈jk r s↔c∈s∧c.1≠r:=by simp[jk]
theorem RG {r:ah} {s:List ae} (h:jj s):jj (jk r s):=List.Pairwise.filter _ h
theorem Jf (r:ah) (s:List ae):(jk r s).length≤s.length:=en_ _ _
theorem aa7 {r:ah} {s:List ae} (h : ∀ c∈s,c.1≠r):jk r s=s:=by
 unfold jk
 rw[List.filter_eq_self]
 intro c hc
 simp[h c hc]
theorem xz {r:ah} {c:ae} {l:List ae} (h:c.1≠r):jk r (c :: l)=c :: jk r l:=by simp[jk,h]
theorem ED {r:ah} {c:ae} {l:List ae} (h:c.1=r):jk r (c :: l)=jk r l:=by simp[jk,h]
theorem AI {r:ah} {x:aa_} : ∀ s:List ae,(ry r x s).Perm (jk r s++[(r,x,())])
 | []=>by simp[ry,jk]
 | c :: l=>by
  unfold ry
  by_cases h:bM c.1 r=true
  ·rw[af_ h,xz (vz h)]
   exact(AI l).cons c
  ·rw[ad_ h]
   exact(List.perm_append_singleton _ _).symm
theorem RH {r:ah} {x:aa_} {s:List ae} {c:ae}:c∈ry r x s↔(c∈s∧c.1≠r)∨c=(r,x,()):=by
 rw[(AI s).mem_iff,bo_,Je,List.mem_singleton]
theorem ZW (r:ah) (x:aa_) (s:List ae):(ry r x s).length≤s.length+1:=by
 rw[(AI s).length_eq,ae_,ac_]
 have:=Jf r s
 omega
theorem Jg {r:ah} {x:aa_} : ∀ {s:List ae},jj s→jj (ry r x s)
 | [],_=>by simp[ry,jj]
 | c :: l,h=>by
  have h':=bq_.1 h
  unfold ry
  by_cases k:bM c.1 r=true
  ·rw[af_ k]
   refine bq_.2 ⟨fun d hd => ?_,Jg h'.2⟩
   rcases RH.1 hd with⟨hd,_⟩ | rfl
   ·exact h'.1 d hd
   ·exact k
  ·rw[ad_ k]
   refine bq_.2 ⟨fun d hd => ?_,RG h⟩
   obtain⟨hd,hn⟩:=Je.1 hd
   show bM r d.1=true
   rcases oa c.1 r with e | e | e
   ·exact bk_ e k
   ·rcases bb_.1 hd with rfl | hd
    ·exact bk_ e hn
    ·rw[←e]
     exact h'.1 d hd
   ·rcases bb_.1 hd with rfl | hd
    ·exact e
    ·exact gm e (h'.1 d hd)
theorem RJ {r:ah} {x:aa_} {s:List ae} (h:jj s):jj (jc s r x):=by
 unfold jc
 split
 ·exact RG h
 ·exact Jg h
theorem ZX (s:List ae) (r:ah) (x:aa_):(jc s r x).length≤s.length+1:=by
 unfold jc
 split
 ·have:=Jf r s
  omega
 ·exact ZW r x s
theorem uf {r:ah} {x:aa_} {s:List ae} {c:ae}:c∈jc s r x↔(c∈s∧c.1≠r)∨(x≠eS∧c=(r,x,())):=by
 unfold jc
 by_cases h:x=eS
 ·rw[af_ h,Je]
  simp[h]
 ·rw[ad_ h,RH]
  simp[h]
theorem vA {q:ah} : ∀ {s:List ae},(∀ c∈s,c.1≠q)→cN q s=eS
 | [],_=>rfl
 | c :: l,h=>by
  rw[cN,ad_ (h c (by simp))]
  exact vA fun d hd=>h d (ar_ _ hd)
theorem sO : ∀ {s:List ae} {c:ae},jj s→c∈s→cN c.1 s=c.2.1
 | d :: l,c,h,hc=>by
  have h':=bq_.1 h
  rw[cN]
  rcases bb_.1 hc with rfl | hc
  ·rw[af_ rfl]
  ·rw[ad_ (vz (h'.1 c hc))]
   exact sO h'.2 hc
theorem O1 {q:ah} {s:List ae} (h:jj s):(∃ c∈s,c.1=q∧c.2.1=cN q s)∨((∀ c∈s,c.1≠q)∧cN q s=eS):=by
 by_cases k : ∃ c∈s,c.1=q
 ·obtain⟨c,hc,rfl⟩:=k
  exact .inl ⟨c,hc,rfl,(sO h hc).symm⟩
 ·have k' : ∀ c∈s,c.1≠q:=fun c hc e=>k ⟨c,hc,e⟩
  exact .inr ⟨k',vA k'⟩
theorem Wj {q r:ah} {x:aa_} {s:List ae} (h:jj s):cN q (jc s r x)=if q=r then x else cN q s:=by
 have hs:=RJ (r:=r) (x:=x) h
 by_cases e:q=r
 ·subst e
  rw[af_ rfl]
  by_cases hx:x=eS
  ·rw[vA,hx]
   intro c hc
   rcases uf.1 hc with⟨_,hn⟩ | ⟨hn,_⟩
   ·exact hn
   ·exact bk_ hx hn
  ·exact sO (c:=(q,x,())) hs (uf.2 (.inr ⟨hx,rfl⟩))
 ·rw[ad_ e]
  rcases O1 (q:=q) h with⟨c,hc,rfl,hv⟩ | ⟨hn,hv⟩
  ·rw[sO hs (uf.2 (.inl ⟨hc,e⟩)),hv]
  ·rw[hv,vA]
   intro c hc
   rcases uf.1 hc with⟨hc,_⟩ | ⟨_,rfl⟩
   ·exact hn c hc
   ·exact fun k=>e k.symm
theorem fk {s:List ae} (h:be s=true):jj s:=(ob.1 h).1
theorem bE {s:List ae} (h:be s=true):s.length≤120:=(ob.1 h).2.2
theorem qC {s:List ae} (h:be s=true) : ∀ c∈s,c.2.1.size≤200:=fun c hc=>AH ((ob.1 h).2.1 c hc).2
theorem Qt {s:List ae} {r:ah} {x:aa_} (h:be s=true) (hr:bT r=true) (hx:x≠eS→fO x=true) (hl:(jc s r x).length≤120):be (jc s r x)=true:=by
 rw[ob] at h ⊢
 refine⟨RJ h.1,?_,hl⟩
 intro c hc
 rcases uf.1 hc with⟨hc,_⟩ | ⟨hn,rfl⟩
 ·exact h.2.1 c hc
 ·exact⟨hr,hx hn⟩
def FF (l:List ah):Prop:=l.Pairwise fun a b=>bM a b=true
def rz (r:ah):List ah→List ah
 | []=>[r]
 | c :: l=>if bM c r=true then c :: rz r l else if c=r then c :: l else r :: c :: l
def tf (l:List ah):List ah:=l.foldr rz []
theorem FH {r q:ah} : ∀ {l:List ah},q∈rz r l↔q=r∨q∈l
 | []=>by simp[rz]
 | c :: l=>by
  unfold rz
  by_cases h:bM c r=true
  ·rw[af_ h,bb_,FH (l:=l),bb_]
   constructor
   ·rintro(h | h | h)
    ·exact .inr (.inl h)
    ·exact .inl h
    ·exact .inr (.inr h)
   ·rintro(h | h | h)
    ·exact .inr (.inl h)
    ·exact .inl h
    ·exact .inr (.inr h)
  ·rw[ad_ h]
   by_cases e:c=r
   ·rw[af_ e,bb_]
    constructor
    ·rintro(h | h)
     ·exact .inl (h.trans e)
     ·exact .inr (.inr h)
    ·rintro(h | h | h)
     ·exact .inl (h.trans e.symm)
     ·exact .inl h
     ·exact .inr h
   ·rw[ad_ e,bb_]
theorem O2 {r:ah} : ∀ {l:List ah},FF l→FF (rz r l)
 | [],_=>by simp[rz,FF]
 | c :: l,h=>by
  have h':=bq_.1 h
  unfold rz
  by_cases k:bM c r=true
  ·rw[af_ k]
   refine bq_.2 ⟨fun d hd => ?_,O2 h'.2⟩
   rcases FH.1 hd with rfl | hd
   ·exact k
   ·exact h'.1 d hd
  ·rw[ad_ k]
   by_cases e:c=r
   ·rw[af_ e]
    exact h
   ·rw[ad_ e]
    have hr:bM r c=true:=by
     rcases oa c r with x | x | x
     ·exact bk_ x k
     ·exact bk_ x e
     ·exact x
    refine bq_.2 ⟨fun d hd => ?_,h⟩
    rcases bb_.1 hd with rfl | hd
    ·exact hr
    ·exact gm hr (h'.1 d hd)
theorem O3 : ∀ l:List ah,FF (tf l)
 | []=>List.Pairwise.nil
 | c :: l=>O2 (O3 l)
theorem FI {q:ah} : ∀ {l:List ah},q∈tf l↔q∈l
 | []=>Iff.rfl
 | c :: l=>by
  show q∈rz c (tf l)↔_
  rw[FH,FI (l:=l),bb_]
theorem Yj {l m:List ah} (hl:FF l) (hm:FF m) (h : ∀ q,q∈l↔q∈m):l=m:=O0 (lt:=bM) qB (fun _ _ _=>gm) hl hm h
theorem FJ : ∀ l:List ah,(tf l).length≤l.length
 | []=>Nat.le_refl _
 | c :: l=>by
  have ih:=FJ l
  have : ∀ m:List ah,(rz c m).length≤m.length+1:=by
   intro m
   induction m with
   | nil=>simp[rz]
   | cons d m ih =>
    unfold rz
    split
    ·simp only[ak_]
     omega
    ·split
     ·simp only[ak_]
      omega
     ·simp only[ak_]
      omega
  have:=this (tf l)
  show(rz c (tf l)).length≤_
  simp only[ak_]
  omega
def aa8 (L M:List ae) (c:db):Prop:=c.2.1=cN c.1 L∧c.2.2.1=cN c.1 M∧c.2.1≠c.2.2.1
noncomputable def Y4 (a b:List ae) (q:ah):db:=(q,cN q a,cN q b,())
noncomputable def gE (a:List ae):List ah:=a.map fun c=>c.1
noncomputable def O4 (a b:List ae):List db:=((tf (gE a++gE b)).map (Y4 a b)).filter fun c => !decide (c.2.1=c.2.2.1)
theorem Yk {a:List ae} {q:ah}:q∈gE a ↔ ∃ c∈a,c.1=q:=by simp[gE]
theorem EE {a:List ae} {q:ah} (h:cN q a≠eS):q∈gE a:=by
 rw[Yk]
 apply Classical.byContradiction
 intro hn
 exact h (vA fun c hc e=>hn ⟨c,hc,e⟩)
theorem ZY {a b:List ae} {c:db}:c∈O4 a b↔aa8 a b c:=by
 unfold O4 aa8
 rw[List.mem_filter,List.mem_map]
 constructor
 ·rintro⟨⟨q,_,rfl⟩,h⟩
  exact⟨rfl,rfl,by simpa using h⟩
 ·rintro⟨h1,h2,h3⟩
  refine⟨⟨c.1,?_,?_⟩,by simpa using h3⟩
  ·rw[FI,bo_]
   by_cases e:cN c.1 a=eS
   ·exact .inr (EE fun e2=>h3 (by rw[h1,h2,e,e2]))
   ·exact .inl (EE e)
  ·exact Prod.ext rfl (Prod.ext h1.symm (Prod.ext h2.symm rfl))
theorem ZZ (a b:List ae):(O4 a b).length≤a.length+b.length:=by
 unfold O4
 refine bn_ (en_ _ _) ?_
 rw[List.length_map]
 refine bn_ (FJ _) ?_
 simp[gE]
noncomputable def O5 (x:aa_):Bool:=decide (x=eS) || fO x
section
variable {α R:Type}
def mD (p:α→Bool):List α→Nat→Int
 | [],_ => -1
 | c :: l,n=>if p c=true then(n:Int) else mD p l (n+1)
theorem vC {p:α→Bool} {s:List α} {d:α} {P:Int→Option R} {F:Int→Option R} (hl:s.length≤1000000000000)
  (hP : ∀ j,P j=if decide (j < (s.length:Int))=true then ix s j d fun y=>if p y=true then F j else P (ha_ hb_ (j+1)) else F (-1)) : ∀(ys pre:List α),s=pre++ys→P (pre.length:Int)=F (mD p ys pre.length)
 | [],pre,h=>by
  rw[hP,aD (bj h)]
  rfl
 | y :: ys,pre,h=>by
  have ih:=vC hl hP ys (pre++[y]) (aB h)
  rw[hP,aI (bA h),bD h,aK h (by omega),ih,ae_,ac_]
  show _=F (if p y=true then(pre.length:Int) else mD p ys (pre.length+1))
  by_cases hp:p y=true
  ·rw[af_ hp,af_ hp]
  ·rw[ad_ hp,ad_ hp]
theorem RL {p:α→Bool} : ∀ {l:List α} {n:Nat},mD p l n = -1 → ∀ c∈l,p c=false
 | [],_,_,c,h=>by cases h
 | x :: l,n,e,c,h=>by
  unfold mD at e
  by_cases hx:p x=true
  ·rw[af_ hx] at e
   omega
  ·rw[ad_ hx] at e
   rcases bb_.1 h with rfl | h
   ·simpa using hx
   ·exact RL e c h
theorem RM {p:α→Bool} : ∀ {l:List α} {n:Nat},mD p l n ≠ -1 → ∃ pre x ys,l=pre++x :: ys∧p x=true∧(∀ c∈pre,p c=false)∧mD p l n=((n+pre.length:Nat):Int)
 | [],_,e=>bk_ rfl e
 | x :: l,n,e=>by
  unfold mD at e ⊢
  by_cases hx:p x=true
  ·rw[af_ hx]
   exact⟨[],x,l,rfl,hx,(fun c h=>by cases h),rfl⟩
  ·rw[ad_ hx] at e ⊢
   obtain⟨pre,z,ys,h1,h2,h3,h4⟩:=RM e
   refine⟨x :: pre,z,ys,by rw[h1]; rfl,h2,?_,?_⟩
   ·intro c hc
    rcases bb_.1 hc with rfl | hc
    ·simpa using hx
    ·exact h3 c hc
   ·rw[h4,ak_]
    congr 1
    omega
theorem FK {p:α→Bool} {d:α} {P:Int→Int→List α→Option R} {F:List α→Option R}
  (hP : ∀ i j xs,P i j xs=if decide (j < (xs.length:Int))=true then inb xs j (if(!p (au_ xs (ap_ j) d))=true then inb xs i (P (ha_ hb_ (i+1)) (ha_ hb_ (j+1)) (List.set xs (ap_ i) (au_ xs (ap_ j) d))) else P i (ha_ hb_ (j+1)) xs)
   else(if(0:Int)≤i then(if i < (xs.length:Int) then MG (List.take (ap_ i) xs++List.replicate (xs.length - ap_ i) d) i F else none) else none)) :
  ∀(ys kept junk:List α),kept.length+junk.length+ys.length≤1000000000000→junk≠[]→P (kept.length:Int) ((kept.length+junk.length:Nat):Int) (kept++junk++ys)=F (kept++ys.filter fun c => !p c)
 | [],kept,junk,hl,hj=>by
  have hjl:=ew_.2 hj
  rw[hP,aD (by simp only[ae_,bi_]; omega),af_ (by omega),af_ (by simp only[ae_,bi_]; omega)]
  simp only[List.append_nil,Int.toNat_natCast,List.filter_nil]
  rw[GS (by omega) (by simp only[ae_,List.length_take,List.length_replicate]; omega)]
  simp
 | y :: ys,kept,junk,hl,hj=>by
  have hjl:=ew_.2 hj
  rw[ak_] at hl
  have e1:kept++junk++y :: ys=(kept++junk)++y :: ys:=rfl
  have hlen:((kept++junk).length:Int)=((kept.length+junk.length:Nat):Int):=by simp
  have hg:au_ (kept++junk++y :: ys) (ap_ ((kept.length+junk.length:Nat):Int)) d=y:=by
   rw[←hlen]
   exact eX
  rw[hP,aI (by rw[ae_,ae_,ak_]; omega),bI (by omega) (by rw[ae_,ae_,ak_]; omega),hg]
  by_cases hp:p y=true
  ·rw[hp,ad_ (by decide),wr (by omega) (by omega)]
   have ih:=FK hP ys kept (junk++[y]) (by simp only[ae_,ac_]; omega) (by simp)
   have e2:kept++(junk++[y])++ys=kept++junk++y :: ys:=by simp
   have e3:((kept.length+(junk++[y]).length:Nat):Int)=((kept.length+junk.length:Nat):Int)+1:=by simp; omega
   rw[e2,e3] at ih
   rw[ih,et_ (by simp[hp])]
  ·have hp':p y=false:=by simpa using hp
   rw[hp',af_ (show(!false)=true from rfl),bI (by omega) (by rw[ae_,ae_,ak_]; omega),wr (by omega) (by omega),wr (by omega) (by omega)]
   obtain⟨z,zs,rfl⟩ : ∃ z zs,junk=z :: zs:=by
    cases junk with
    | nil=>exact bk_ rfl hj
    | cons z zs=>exact⟨z,zs,rfl⟩
   have ih:=FK hP ys (kept++[y]) (zs++[y]) (by simp only[ae_,bi_,ak_] at hl ⊢; omega) (by simp)
   have e2:List.set (kept++z :: zs++y :: ys) (ap_ (kept.length:Int)) y=kept++[y]++(zs++[y])++ys:=by simp
   have e3:(((kept++[y]).length+(zs++[y]).length:Nat):Int)=((kept.length+(z :: zs).length:Nat):Int)+1:=by simp; omega
   have e4:((kept++[y]).length:Int)=(kept.length:Int)+1:=by simp
   rw[e3,e4] at ih
   rw[e2,ih,List.filter_cons_of_pos (by simp[hp'])]
   simp
end
theorem xA {s:List ae} (hl:s.length≤1000000000):fB s=some ((s,()),()):=by
 rw[Ae]
 unfold cP
 simp only[iB?,dite_true,ab_]
 exact af_ (by omega)
theorem Z0 {s:List ae} {r:ah} (hl:s.length≤1000000000) : ∀(ys pre:List ae),s=pre++ys→co s (s.length:Int) (pre.length:Int) r=some ((mD (fun c=>bk ak c.1 r) ys pre.length,()),(r,())) :=
 vC (p:=fun c:ae=>bk ak c.1 r) (d:=av.dflt) (F:=fun j=>some ((j,()),(r,()))) (s:=s) (P:=fun j=>co s (s.length:Int) j r) (by omega) fun j=>by
  rw[lm]
  simp only[yA,ab_]
theorem Yl {s:List ae} {r:ah} (hl:s.length≤1000000000):eR s r.1 r.2.1=some ((mD (fun c=>bk ak c.1 r) s 0,()),(r,())):=by
 rw[m9,lN]
 cases s with
 | nil=>rfl
 | cons c l =>
  have h2:=Z0 (r:=r) hl l [c] rfl
  rw[aI (by rw[ak_]; omega)]
  have hix : ∀ {β:Type} {F:ae→Option β},ix (c :: l) 0 av.dflt F=F c:=fun {β F}=>bD (pre:=[]) (ys:=l) rfl
  rw[hix,LH,ab_]
  show(if bk ak c.1 r=true then _ else _)=_
  unfold mD
  by_cases h:bk ak c.1 r=true
  ·rw[af_ h,af_ h]
   rfl
  ·rw[ad_ h,ad_ h]
   exact h2
theorem aa9 (r:ah):(fun c:ae => !bk ak c.1 r)=fun c => !decide (c.1=r):=by
 funext c
 congr 1
 rw[Bool.eq_iff_iff,ai_,im]
theorem Ym {s:List ae} {r:ah} (hl:s.length≤1000000000):d7 s r.1 r.2.1=some ((jk r s,()),(r,())):=by
 rw[lK,Yl hl,ab_]
 dsimp only
 by_cases h:mD (fun c:ae=>bk ak c.1 r) s 0 = -1
 ·rw[h,af_ (by rfl)]
  have:=RL h
  rw[aa7 fun c hc=>by
   have:=this c hc
   intro e
   rw[im.mpr e] at this
   cases this]
 ·obtain⟨pre,x,ys,h1,h2,h3,h4⟩:=RM h
  rw[ad_ (by simpa using h),h4,Nat.zero_add]
  have hlen:pre.length+1+ys.length≤1000000000:=by rw[h1] at hl; simp at hl; omega
  have hd:=FK (p:=fun c:ae=>bk ak c.1 r) (d:=av.dflt) (P:=fun i j xs=>cg i j xs r) (F:=fun l=>some ((l,()),(r,()))) (fun i j xs=>by
   rw[kv]
   simp only[yA,ab_]) ys pre [x] (by simp only[ac_]; omega) (by simp)
  rw[wr (by omega) (by omega)]
  have e1:pre++[x]++ys=s:=by rw[h1]; simp
  have e2:((pre.length+[x].length:Nat):Int)=(pre.length:Int)+1:=by simp
  rw[e1,e2] at hd
  refine hd.trans ?_
  have e3:jk r s=pre++ys.filter fun c => !bk ak c.1 r:=by
   rw[aa9 r]
   unfold jk
   rw[h1,List.filter_append,et_ (by simp[im.mp h2])]
   congr 1
   rw[List.filter_eq_self]
   intro c hc
   have:=h3 c hc
   simp only[Bool.not_eq_true',decide_eq_false_iff_not]
   intro e
   rw[im.mpr e] at this
   cases this
  rw[e3]
def ltC (a b:ae):Bool:=bM a.1 b.1
theorem T6:Sort.SWO (α:=ah) bM where
 irrefl:=qB
 trans _ _ _ h k:=gm h k
 ntrans x y z h k:=by
  rw[cm_] at h k ⊢
  intro hz
  rcases oa x y with e | e | e
  ·exact h e
  ·subst e
   exact k hz
  ·exact k (gm e hz)
theorem abb:Sort.SWO (α:=av.den) ltC where
 irrefl x:=T6.irrefl x.1
 trans x y z h k:=T6.trans x.1 y.1 z.1 h k
 ntrans x y z h k:=T6.ntrans x.1 y.1 z.1 h k
theorem Wk {s:List ae} (hl:s.length≤1000000000):eG s=some ((),(dC (α:=av.den) ltC s,())):=by
 rw[mv]
 unfold gX
 simp only[iB?,dite_true,ab_,ba_]
 exact af_ (by omega)
theorem T7 {r:ah} {x:aa_} {s:List ae} (h:jj s):dC (α:=av.den) ltC (jk r s++[(r,x,())])=ry r x s :=
 DZ ((rQ abb _).trans (AI s).symm) (AY abb _) (Jg h)
theorem Qu {s:List ae} {r:ah} {x:aa_} (h:jj s) (hl:s.length≤1000000):Fc s r x=some ((jc s r x,()),()):=by
 have hd:=Jf r s
 rw[Qf,xA (by omega),ab_]
 dsimp only
 rw[Ym (by omega),ab_]
 dsimp only
 unfold jc
 by_cases hx:x=eS
 ·subst hx
  rw[af_ rfl,ad_ (by simp[so])]
 ·rw[ad_ hx,show(ag_ x == ag_ (⟨#[]⟩:aa_))=decide (x=eS) from so,be_ hx,af_ (by rfl),bg (by simp only[ac_]; omega),Wk (by simp only[ae_,ac_]; omega),ab_]
  dsimp only
  rw[T7 h]
section
variable {s:List ae} {r:ah} {x:aa_} (hl:s.length≤1000000)
include hl
theorem oc : ∀(ys pre acc:List ae),s=pre++ys→acc.length+ys.length≤1000010→iq s x true (pre.length:Int) r.1 r.2.1 acc=some ((acc++jk r ys,()),())
 | [],pre,acc,h,ha=>by
  rw[qn,aD (bj h)]
  simp[jk]
 | y :: ys,pre,acc,h,ha=>by
  rw[ak_] at ha
  rw[qn,aI (bA h)]
  simp only[bc_,aj_,aw_,bD h]
  show(if(!bk ak y.1 r)=true then _ else _)=_
  by_cases e:y.1=r
  ·rw[im.mpr e,ad_ (by decide),aK h (by omega),oc ys _ acc (aB h) (by omega),ED e]
  ·have e':bk ak y.1 r=false:=by rw[cm_,ne_eq,im]; exact e
   rw[e',af_ (by rfl),bg (by simp only[ac_]; omega),aK h (by omega),oc ys _ _ (aB h) (by simp only[ae_,ac_]; omega),xz e]
   simp
theorem C8 : ∀(ys pre acc:List ae),s=pre++ys→acc.length+ys.length≤1000000→iq s x false (pre.length:Int) r.1 r.2.1 acc=some ((acc++ry r x ys,()),())
 | [],pre,acc,h,ha=>by
  rw[qn,aD (bj h),af_ (by rfl),bg (by simp only[ac_,bi_] at ha ⊢; omega)]
  rfl
 | y :: ys,pre,acc,h,ha=>by
  rw[ak_] at ha
  rw[qn,aI (bA h),af_ (by rfl)]
  simp only[bD h,EB,ab_]
  show(if(!bM y.1 r)=true then _ else _)=_
  unfold ry
  cases k:bM y.1 r with
  | true =>
   have e:=vz k
   have e':bk ak y.1 r=false:=by rw[cm_,ne_eq,im]; exact e
   rw[ad_ (by decide),af_ rfl]
   show(if(!bk ak y.1 r)=true then _ else _)=_
   rw[e',af_ (by rfl),bg (by simp only[ac_]; omega),aK h (by omega),C8 ys _ _ (aB h) (by simp only[ae_,ac_]; omega)]
   simp
  | false =>
   rw[af_ (by decide),ad_ (by decide),bg (by simp only[ac_]; omega)]
   show(if(!bk ak y.1 r)=true then _ else _)=_
   by_cases e:y.1=r
   ·rw[im.mpr e,ad_ (by decide),aK h (by omega),oc hl ys _ _ (aB h) (by simp only[ae_,ac_]; omega),ED e]
    simp
   ·have e':bk ak y.1 r=false:=by rw[cm_,ne_eq,im]; exact e
    rw[e',af_ (by rfl),bg (by simp only[ae_,ac_]; omega),aK h (by omega),oc hl ys _ _ (aB h) (by simp only[ae_,ac_]; omega),xz e]
    simp
theorem KT:GH s r x=some ((jc s r x,()),()):=by
 rw[Vl]
 unfold jc
 by_cases hx:x=eS
 ·subst hx
  rw[af_ rfl,show(ag_ eS == ag_ (⟨#[]⟩:aa_))=decide (eS=eS) from so,bd_ rfl]
  exact oc hl s [] [] rfl (by simp only[bi_]; omega)
 ·rw[ad_ hx]
  have:(ag_ x == ag_ (⟨#[]⟩:aa_))=false:=by
   rw[show(ag_ x == ag_ (⟨#[]⟩:aa_))=decide (x=eS) from so,be_ hx]
  rw[this]
  exact C8 hl s [] [] rfl (by simp only[bi_]; omega)
end
theorem Z1:eK eS=(eS,true):=by
 have h:=(mC (x:=eS) (by decide)).2.1
 rw[xn,nZ (by decide)] at h
 have hp:(plain eS && decide ((eS.size:Int)≤200))=true:=by decide +kernel
 have he:(ag_ eS == ag_ (⟨#[]⟩:aa_))=decide (eS=eS):=so
 rw[hp,he,bd_ rfl] at h
 simp only[ab_,bc_,aj_,aw_,ba_,bg_,Prod.mk.injEq,and_true] at h
 exact Prod.ext h.1.symm h.2.symm
theorem Yn (x:aa_):((eK x).2 && decide ((eK x).1=x))=O5 x:=by
 unfold O5
 by_cases h:x=eS
 ·subst h
  rw[Z1]
  simp
 ·rw[be_ h,Bool.false_or]
  unfold fO
  rw[be_ h]
  simp
theorem eqD {a b:aa_}:(ag_ a == ag_ b)=decide (a=b):=so
theorem eqE {a:aa_}:(ag_ a == ag_ (⟨#[]⟩:aa_))=decide (a=eS):=so
section
variable {l:List db} (hl:l.length≤360) (hsz : ∀ c∈l,c.2.2.1.size≤9223372036854775807)
include hl hsz
end
section
variable {s:List ae} {l:List db} (hs : ∀ c∈s,c.2.1.size≤9223372036854775807) (hsl:s.length≤1000000000) (hsz : ∀ c∈l,c.2.2.1.size≤9223372036854775807)
include hs hsl hsz
end
section
variable {c:List Int} (hc:KP c)
include hc
theorem Yo {β:Type} {Q:β→Prop} {s:aJ} (n:Nat) {m:Int} {f:(aa_×Unit)×aJ×Unit→Option β} (e:m=(n:Int)) (hn:n≤3) (h:Rd c s) (k : ∀ z,z.1.1.size≤6400→Rd c z.2.1→Ok Q (f z)):Ok Q ((bu m s).bind f):=by
 subst e
 have h4:4 ^ n≤64:=bn_ (Nat.pow_le_pow_right (n:=4) (by decide) hn) (by decide)
 exact Ok.bnd (OL hc n hn h) fun z hz=>k z (by have:=hz.1; omega) hz.2
set_option maxHeartbeats 4000000 in
theorem Yp {s:aJ} (h:Rd c s):Ok (fun z=>z.1.1.size≤6401∧Rd c z.2.1) (eF s):=by
 rw[IE]
 repeat' first
  | refine ru hc (by assumption) (by decide) fun _ _ _ _ => ?_
  | refine Yo hc 2 rfl (by decide) (by assumption) fun _ _ _ => ?_
  | refine Yo hc 1 rfl (by decide) (by assumption) fun _ _ _ => ?_
  | refine HO (by omega) (by omega) fun _ _ => ?_
  | refine Ok.inbL ⟨#[]⟩ (by assumption) (by assumption) (by decide) (by decide) (by decide) fun _ => ?_
  | (refine Ok.cats (by simp only[We]; omega) ?_; try dsimp only)
  | refine Ok.ite (fun _ => ?_) fun _ => ?_
  | refine Ok.one ⟨?_,by assumption⟩
 all_goals (try dsimp only)
 all_goals (try simp only[size_append,We])
 all_goals first | omega | decide
end
noncomputable def O6 (s:List ae) (r:ah) (x:aa_):List ae×Bool :=
 if be s=true∧bT r=true∧(eK x).2=true∧(jc s r (eK x).1).length≤120 then(jc s r (eK x).1,true) else([],false)
theorem Wl {s:List ae} {r:ah} {x:aa_} (hl:s.length≤1000000) (hs : ∀ c∈s,c.2.1.size≤9223372036854775807) (hx:x.size≤9223372036854775807):MZ s r x=some (((O6 s r x).1,(O6 s r x).2,()),()):=by
 rw[Vm,(mC hx).2.1,EC hs (by omega),kE]
 simp only[ab_]
 unfold O6
 cases h1:be s with
 | false=>simp
 | true =>
  cases h2:bT r with
  | false=>simp
  | true =>
   cases h3:(eK x).2 with
   | false=>simp
   | true =>
    rw[KT hl]
    simp only[ab_,bc_,aj_,aw_]
    by_cases h4:(jc s r (eK x).1).length≤120
    ·rw[aD (by omega),af_ (by simp[h4])]
    ·rw[aI (by omega),ad_ (by simp[h4])]
def RN (s:List ae):Prop:=s.length≤121 ∧ ∀ c∈s,c.2.1.size≤6401
theorem RN.sz {s:List ae} (h:RN s) : ∀ c∈s,c.2.1.size≤9223372036854775807:=fun c hc=>bn_ (h.2 c hc) (by decide)
def T8 (s:List ae):Prop:=s.length≤120 ∧ ∀ c∈s,c.2.1.size≤6401
theorem T8.up {s:List ae} (h:T8 s):RN s:=⟨by have:=h.1; omega,h.2⟩
theorem Yq {s:List ae} {r:ah} {x:aa_} {n:Nat} (hs : ∀ c∈s,c.2.1.size≤n) (hx:x.size≤n) : ∀ c∈jc s r x,c.2.1.size≤n:=by
 intro c hc
 rcases uf.1 hc with h | ⟨_,rfl⟩
 ·exact hs c h.1
 ·exact hx
theorem Wm {s:List ae} {r:ah} {x:aa_} (h : ∀ c∈s,c.2.1.size≤6401):T8 (O6 s r x).1:=by
 unfold O6
 split
 ·rename_i k
  exact⟨k.2.2.2,Yq h (bn_ (KS x) (by decide))⟩
 ·exact⟨Nat.zero_le _,fun c hc=>by cases hc⟩
section
variable {c:List Int} (hc:KP c)
include hc
theorem Jh {β:Type} {Q:β→Prop} {s:aJ} {f:(aa_×Unit)×aJ×Unit→Option β} (h:Rd c s) (k : ∀ z,z.1.1.size≤6401→Rd c z.2.1→Ok Q (f z)):Ok Q ((eF s).bind f):=Ok.bnd (Yp hc h) fun z hz=>k z hz.1 hz.2
end
theorem ab9 (a b:ae):bk av a b=decide (a=b):=by
 by_cases h:a=b
 ·rw[bd_ h]; exact(km rfl).2 h
 ·rw[be_ h,cm_]; exact fun k=>h ((km rfl).1 k)
theorem KU {α:Type} [DecidableEq α] {d:α} {xs ys:List α} {P:Int→Option ((Bool×Unit)×Unit)} (hl:xs.length≤1000000000) (hxy:ys.length=xs.length)
  (hP : ∀ i,P i=if(decide (i < (al_ xs:Int)))=true then(ix xs i d fun y1=>(ix ys i d fun y2=>(if(!(decide (y1=y2)))=true then(some ((false,()),(()))) else(P (ha_ hb_ (i+1)))))) else(some ((true,()),(())))) : ∀(a b pa pb:List α),xs=pa++a→ys=pb++b→pa.length=pb.length→P (pa.length:Int)=some ((decide (a=b),()),())
 | [],b,pa,pb,ha,hb,hp=>by
  have:b=[]:=by
   have e:=an_ al_ ha
   have e':=an_ al_ hb
   simp only[ae_,bi_] at e e'
   exact List.length_eq_zero_iff.1 (by omega)
  rw[hP,aD (bj ha),this]
  rfl
 | x :: a,[],pa,pb,ha,hb,hp=>by
  have e:=an_ al_ ha
  have e':=an_ al_ hb
  simp only[ae_,bi_,ak_] at e e'
  omega
 | x :: a,y :: b,pa,pb,ha,hb,hp=>by
  rw[hP,aI (bA ha),bD ha,hp,bD hb,←hp,aK ha (by omega),KU hl hxy hP a b (pa++[x]) (pb++[y]) (aB ha) (aB hb) (by simp[hp])]
  by_cases e:x=y
  ·rw[bd_ e]
   subst e
   simp
  ·rw[be_ e]
   simp[e]
theorem abd {α:Type} {xs ys:List α}:((xs.length:Int) != (ys.length:Int)) = !decide (xs.length=ys.length):=by
 by_cases h:xs.length=ys.length
 ·simp[h]
 ·have:(xs.length:Int)≠(ys.length:Int):=by omega
  simp[h,this]
theorem LL {xs ys:List ae} (hl:xs.length≤1000000000):fq xs ys=some ((decide (xs=ys),()),()):=by
 rw[LJ,abd]
 by_cases h:xs.length=ys.length
 ·rw[bd_ h,ad_ (by decide)]
  exact KU (d:=av.dflt) (P:=fun i=>om xs ys i) hl h.symm (fun i=>by rw[Fp]; simp only[ab9]) xs ys [] [] rfl rfl rfl
 ·rw[be_ h,af_ (by rfl),be_ (fun e=>h (an_ _ e))]
section
variable {s a:List ae} (hs:be s=true) (ha:be a=true)
include hs ha
end
section
variable {s:List ae} {a:am} (hs : ∀ c∈s,c.2.1.size≤9223372036854775807) (hl:s.length≤1000000)
include hs hl
end
theorem Y5 {x:aa_} (hx:x.size≤9223372036854775807):tC x=some (((cZ x).getD [],(cZ x).isSome,()),()):=by
 have hl:(lb x).length≤9223372036854775807:=by rw[iA]; exact hx
 have hc:cx x (⟨#[61]⟩:aa_)=some ((ba (if [61].isPrefixOf (lb x)=true then(lb x).drop 1 else lb x),[61].isPrefixOf (lb x),()),()):=by
  have:=sJ (lb x) [61] hl
  rwa[ec] at this
 have hsz:(ba ((lb x).drop 1)).size≤9223372036854775807:=by
  rw[aQ,List.length_drop]
  omega
 have hp:List.isPrefixOf [61] (lb x)=decide ((lb x).head? = some 61):=by
  cases lb x with
  | nil=>rfl
  | cons b l =>
   by_cases h:b=61
   ·subst h
    rfl
   ·simp[List.isPrefixOf,h,Ne.symm h]
 rw[LF,hc,hp]
 simp only[ab_]
 unfold cZ
 by_cases hb:(lb x).head? = some 61
 ·simp only[hb,decide_true,bc_,aj_,aw_,ba_,true_and]
  rw[(sM hsz).2.1]
  simp only[ab_]
  cases hr:(jb (ba ((lb x).drop 1))).2 with
  | true=>rfl
  | false =>
   rw[(sM hsz).2.2.2 hr]
   rfl
 ·simp only[hb,decide_false,Bool.not_false,ba_,false_and,aw_]
  rfl
theorem Y6 {x:aa_} (hx:x.size≤9223372036854775807):qg x=some (((cZ x).getD [],(cZ x).isSome,()),()):=by
 rw[LI]
 unfold cZ
 cases hl':lb x with
 | nil =>
  have he:x=ba []:=by rw[←ec x,hl']
  have h2:(ag_ x == ag_ (⟨#[]⟩:aa_))=true:=by
   rw[he]
   have:(⟨#[]⟩:aa_)=ba []:=rfl
   rw[this,dG]
   simp
  rw[af_ h2,ad_ (by simp)]
  rfl
 | cons b l =>
  have hx':x=ba (b :: l):=by rw[←hl',ec]
  subst hx'
  have hsz:(ba l).size≤9223372036854775807:=by
   rw[aQ] at hx ⊢
   simp only[ak_] at hx
   omega
  have he:(ag_ (ba (b :: l)) == ag_ (⟨#[]⟩:aa_))=false:=by
   have:(⟨#[]⟩:aa_)=ba []:=rfl
   rw[this,dG]
   simp
  rw[he,qv]
  simp only[aj_,aw_]
  by_cases hb:b=61
  ·subst hb
   rw[ad_ (by decide)]
   have hsl : ∀(k:aa_→Option ((List ab×(Bool×Unit))×Unit)),ji (ba (61 :: l)) 1 k=k (ba l):=fun k=>by
    have:=fW (l:=61 :: l) (n:=1) (f:=k) (by simp)
    exact this
   rw[hsl,(sM hsz).1]
   simp only[ab_,db_,true_and,List.drop_succ_cons,List.drop_zero]
   cases hr:(jb (ba l)).2 with
   | true=>rfl
   | false =>
    rw[(sM hsz).2.2.2 hr]
    rfl
  ·have hb':((b.toNat:Int) != 61)=true:=by
    rw[bne_iff_ne]
    intro h
    apply hb
    apply UInt8.toNat_inj.1
    have:((61:UInt8).toNat)=61:=rfl
    omega
   rw[af_ hb']
   simp only[db_,bg_,hb,false_and,aw_]
   rfl
section
variable {f:List ab} (hf:fg f=true)
include hf
end
section
variable {x:aa_} (hx:x.size≤9223372036854775807)
include hx
end
end Go.Proofs.YthbkdfcmjmmpgaaGreatDoor.Abs
