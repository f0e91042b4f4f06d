/- Plain laws: sheets as rows in order: what is taken out, what is put in, what lies at a place. -/
import Derived.Test.YthbkdfcmjmmpgaaGreatDoorZM9
import Derived.Test.YthbkdfcmjmmpgaaGreatDoorZM8
import Derived.Test.YthbkdfcmjmmpgaaGreatDoorZM5
set_option linter.unusedVariables false
set_option linter.unusedSimpArgs false
set_option linter.unusedSectionVars false
open Bool renaming and_eq_true→ag_,eq_false_iff→cf_,eq_iff_iff→bw_,false_eq_true→ak_,false_or→cz_,not_true→bc_
open ByteArray renaming toList→ah_
open Go.IntKind renaming i64→hf_,wrap→he_
open Int renaming toNat→ap_
open List renaming filter_cons_of_neg→et_,filter_cons_of_pos→fi_,filter_map→gd_,getD_eq_getElem?_getD→ao_,getD→aw_,getElem?_map→gh_,head?_cons→dg_,length_append→af_,length_cons→aj_,length_filter_le→fc_,length_nil→bl_,length_pos_iff→em_,length_range→fr_,length_singleton→ad_,length→am_,mem_append→bo_,mem_cons_of_mem→ar_,mem_cons→bi_,mem_filter→dm_,mem_range→dy_,mem_singleton→be_,pairwise_cons→ce_,range→bs_
open Nat renaming le_refl→aq_,le_trans→bq_,zero_le→di_
open Option renaming bind_some→ab_
open Option.some renaming injEq→bd_
open Prod renaming ext→eq_
open _root_ renaming ByteArray→aa_,absurd→bh_,congrArg→an_,decide_eq_false→bf_,decide_eq_true_eq→ai_,decide_eq_true→bb_,if_false→av_,if_neg→ac_,if_pos→ae_,if_true→ba_
namespace Go.Proofs.YthbkdfcmjmmpgaaGreatDoor.Abs
open Go
theorem IA {α:Type} {lt:α→α→Bool} (hi : ∀ x,lt x x=false) (ht : ∀ x y z,lt x y=true→lt y z=true→lt x z=true) : ∀ {l m:List α},(l.Pairwise fun a b=>lt a b=true)→(m.Pairwise fun a b=>lt a b=true)→(∀ x,x∈l↔x∈m)→l=m
 | [],[],_,_,_=>rfl
 | [],y :: m,_,_,h=>by have:=(h y).2 (by simp); cases this
 | x :: l,[],_,_,h=>by have:=(h x).1 (by simp); cases this
 | x :: l,y :: m,hl,hm,h=>by
  rw[ce_] at hl hm
  have hxy:x=y:=by
   rcases bi_.1 ((h x).1 (by simp)) with e | hx
   ·exact e
   ·rcases bi_.1 ((h y).2 (by simp)) with e | hy
    ·exact e.symm
    ·have:=ht _ _ _ (hl.1 y hy) (hm.1 x hx)
     rw[hi] at this
     cases this
  subst hxy
  congr 1
  refine IA hi ht hl.2 hm.2 fun z=>⟨fun hz => ?_,fun hz => ?_⟩
  ·rcases bi_.1 ((h z).1 (ar_ _ hz)) with e | hz'
   ·subst e
    have:=hl.1 z hz
    rw[hi] at this
    cases this
   ·exact hz'
  ·rcases bi_.1 ((h z).2 (ar_ _ hz)) with e | hz'
   ·subst e
    have:=hm.1 z hz
    rw[hi] at this
    cases this
   ·exact hz'
theorem pH {a b:am}:cl a b=true↔a.2.1 < b.2.1∨(a.2.1=b.2.1∧a.1 < b.1):=by
 unfold cl
 simp
theorem mP (a:am):cl a a=false:=by
 rw[cf_]
 intro h
 have:=pH.1 h
 omega
theorem iI {a b c:am} (h:cl a b=true) (k:cl b c=true):cl a c=true:=by
 have:=pH.1 h
 have:=pH.1 k
 rw[pH]
 omega
theorem aaM {a b:am} (h1:a.1=b.1) (h2:a.2.1=b.2.1):a=b:=eq_ h1 (eq_ h2 rfl)
theorem xP (a b:am):cl a b=true∨a=b∨cl b a=true:=by
 rw[pH,pH]
 by_cases h:a=b
 ·exact .inr (.inl h)
 ·by_cases h2:a.2.1=b.2.1
  ·have:a.1≠b.1:=fun e=>h (aaM e h2)
   omega
  ·omega
theorem rM {a b:am} (h:cl a b=true):a≠b:=by
 rintro rfl
 rw[mP] at h
 cases h
def iw (s:List ae):Prop:=s.Pairwise fun a b=>cl a.1 b.1=true
theorem Sy : ∀ {s:List ae} {o:Option ae},Du o s=true↔(∀ p,o=some p → ∀ c∈s,cl p.1 c.1=true)∧iw s ∧ ∀ c∈s,bM c.1=true∧eA c.2.1=true
 | [],o=>by simp[Du,iw]
 | c :: l,o=>by
  have ih:=Sy (s:=l) (o:=some c)
  simp only[Du,ag_,ih]
  constructor
  ·rintro⟨⟨⟨h1,h2⟩,h3⟩,h4,h5,h6⟩
   refine⟨?_,ce_.2 ⟨fun d hd=>h4 c rfl d hd,h5⟩,?_⟩
   ·rintro p rfl d hd
    have h3:cl p.1 c.1=true:=h3
    rcases bi_.1 hd with rfl | hd
    ·exact h3
    ·exact iI h3 (h4 c rfl d hd)
   ·intro d hd
    rcases bi_.1 hd with rfl | hd
    ·exact⟨h1,h2⟩
    ·exact h6 d hd
  ·rintro⟨h1,h2,h3⟩
   have h2:=ce_.1 h2
   refine⟨⟨h3 c (by simp),?_⟩,?_,h2.2,fun d hd=>h3 d (ar_ _ hd)⟩
   ·cases o with
    | none=>rfl
    | some p=>exact h1 p rfl c (by simp)
   ·rintro p hp d hd
    cases hp
    exact h2.1 d hd
theorem lR {s:List ae}:aO s=true↔iw s∧(∀ c∈s,bM c.1=true∧eA c.2.1=true)∧s.length≤120:=by
 unfold aO
 rw[ag_,Sy,ai_]
 constructor
 ·rintro⟨⟨_,h1,h2⟩,h3⟩
  exact⟨h1,h2,h3⟩
 ·rintro⟨h1,h2,h3⟩
  exact⟨⟨(fun p hp=>by cases hp),h1,h2⟩,h3⟩
theorem xg {x:aa_}:eA x=true↔(dk x).2=true∧x≠eS∧(dk x).1=x:=by
 unfold eA
 simp[ag_,and_assoc]
theorem Y9 {x:aa_} (h:eA x=true):x≠eS:=(xg.1 h).2.1
theorem LF (x:aa_):(dk x).1.size≤200:=by
 by_cases h:x.size≤9223372036854775807
 ·exact(kO h).2.2
 ·unfold dk
  rw[dif_neg h]
  decide
theorem A6 {x:aa_} (h:eA x=true):x.size≤200:=by
 have:=LF x
 rw[(xg.1 h).2.2] at this
 exact this
def jz (r:am) (s:List ae):List ae:=s.filter fun c => !decide (c.1=r)
def rN (r:am) (x:aa_):List ae→List ae
 | []=>[(r,x,())]
 | c :: l=>if cl c.1 r=true then c :: rN r x l else(r,x,()) :: jz r (c :: l)
noncomputable def ed (s:List ae) (r:am) (x:aa_):List ae:=if x=eS then jz r s else rN r x s
theorem JT {r:am} {s:List ae} {c:ae}:c∈jz r s↔c∈s∧c.1≠r:=by simp[jz]
theorem Sz {r:am} {s:List ae} (h:iw s):iw (jz r s):=List.Pairwise.filter _ h
theorem JU (r:am) (s:List ae):(jz r s).length≤s.length:=fc_ _ _
theorem abZ {r:am} {s:List ae} (h : ∀ c∈s,c.1≠r):jz r s=s:=by
 unfold jz
 rw[List.filter_eq_self]
 intro c hc
 simp[h c hc]
theorem xQ {r:am} {c:ae} {l:List ae} (h:c.1≠r):jz r (c :: l)=c :: jz r l:=by simp[jz,h]
theorem Fd {r:am} {c:ae} {l:List ae} (h:c.1=r):jz r (c :: l)=jz r l:=by simp[jz,h]
theorem A7 {r:am} {x:aa_} : ∀ s:List ae,(rN r x s).Perm (jz r s++[(r,x,())])
 | []=>by simp[rN,jz]
 | c :: l=>by
  unfold rN
  by_cases h:cl c.1 r=true
  ·rw[ae_ h,xQ (rM h)]
   exact(A7 l).cons c
  ·rw[ac_ h]
   exact(List.perm_append_singleton _ _).symm
theorem SA {r:am} {x:aa_} {s:List ae} {c:ae}:c∈rN r x s↔(c∈s∧c.1≠r)∨c=(r,x,()):=by
 rw[(A7 s).mem_iff,bo_,JT,be_]
theorem aaN (r:am) (x:aa_) (s:List ae):(rN r x s).length≤s.length+1:=by
 rw[(A7 s).length_eq,af_,ad_]
 have:=JU r s
 omega
theorem JV {r:am} {x:aa_} : ∀ {s:List ae},iw s→iw (rN r x s)
 | [],_=>by simp[rN,iw]
 | c :: l,h=>by
  have h':=ce_.1 h
  unfold rN
  by_cases k:cl c.1 r=true
  ·rw[ae_ k]
   refine ce_.2 ⟨fun d hd => ?_,JV h'.2⟩
   rcases SA.1 hd with⟨hd,_⟩ | rfl
   ·exact h'.1 d hd
   ·exact k
  ·rw[ac_ k]
   refine ce_.2 ⟨fun d hd => ?_,Sz h⟩
   obtain⟨hd,hn⟩:=JT.1 hd
   show cl r d.1=true
   rcases xP c.1 r with e | e | e
   ·exact bh_ e k
   ·rcases bi_.1 hd with rfl | hd
    ·exact bh_ e hn
    ·rw[←e]
     exact h'.1 d hd
   ·rcases bi_.1 hd with rfl | hd
    ·exact e
    ·exact iI e (h'.1 d hd)
theorem JW {r:am} {x:aa_} {s:List ae} (h:iw s):iw (ed s r x):=by
 unfold ed
 split
 ·exact Sz h
 ·exact JV h
theorem SB (s:List ae) (r:am) (x:aa_):(ed s r x).length≤s.length+1:=by
 unfold ed
 split
 ·have:=JU r s
  omega
 ·exact aaN r x s
theorem rO {r:am} {x:aa_} {s:List ae} {c:ae}:c∈ed s r x↔(c∈s∧c.1≠r)∨(x≠eS∧c=(r,x,())):=by
 unfold ed
 by_cases h:x=eS
 ·rw[ae_ h,JT]
  simp[h]
 ·rw[ac_ h,SA]
  simp[h]
theorem A8 {q:am} : ∀ {s:List ae},(∀ c∈s,c.1≠q)→bV q s=eS
 | [],_=>rfl
 | c :: l,h=>by
  rw[bV,ac_ (h c (by simp))]
  exact A8 fun d hd=>h d (ar_ _ hd)
theorem pI : ∀ {s:List ae} {c:ae},iw s→c∈s→bV c.1 s=c.2.1
 | d :: l,c,h,hc=>by
  have h':=ce_.1 h
  rw[bV]
  rcases bi_.1 hc with rfl | hc
  ·rw[ae_ rfl]
  ·rw[ac_ (rM (h'.1 c hc))]
   exact pI h'.2 hc
theorem A9 {q:am} {s:List ae} (h:iw s):(∃ c∈s,c.1=q∧c.2.1=bV q s)∨((∀ c∈s,c.1≠q)∧bV q s=eS):=by
 by_cases k : ∃ c∈s,c.1=q
 ·obtain⟨c,hc,rfl⟩:=k
  exact .inl ⟨c,hc,rfl,(pI h hc).symm⟩
 ·have k' : ∀ c∈s,c.1≠q:=fun c hc e=>k ⟨c,hc,e⟩
  exact .inr ⟨k',A8 k'⟩
theorem pJ {q r:am} {x:aa_} {s:List ae} (h:iw s):bV q (ed s r x)=if q=r then x else bV q s:=by
 have hs:=JW (r:=r) (x:=x) h
 by_cases e:q=r
 ·subst e
  rw[ae_ rfl]
  by_cases hx:x=eS
  ·rw[A8,hx]
   intro c hc
   rcases rO.1 hc with⟨_,hn⟩ | ⟨hn,_⟩
   ·exact hn
   ·exact bh_ hx hn
  ·exact pI (c:=(q,x,())) hs (rO.2 (.inr ⟨hx,rfl⟩))
 ·rw[ac_ e]
  rcases A9 (q:=q) h with⟨c,hc,rfl,hv⟩ | ⟨hn,hv⟩
  ·rw[pI hs (rO.2 (.inl ⟨hc,e⟩)),hv]
  ·rw[hv,A8]
   intro c hc
   rcases rO.1 hc with⟨hc,_⟩ | ⟨_,rfl⟩
   ·exact hn c hc
   ·exact fun k=>e k.symm
theorem IC {s:List ae} (h:aO s=true) : ∀ c∈s,c.2.1≠eS:=fun c hc=>Y9 ((lR.1 h).2.1 c hc).2
theorem bN {s:List ae} (h:aO s=true):iw s:=(lR.1 h).1
theorem bB {s:List ae} (h:aO s=true):s.length≤120:=(lR.1 h).2.2
theorem qJ {s:List ae} (h:aO s=true) : ∀ c∈s,c.2.1.size≤200:=fun c hc=>A6 ((lR.1 h).2.1 c hc).2
theorem xR {s:List ae} {r:am} {x:aa_} (h:aO s=true) (hr:bM r=true) (hx:x≠eS→eA x=true) (hl:(ed s r x).length≤120):aO (ed s r x)=true:=by
 rw[lR] at h ⊢
 refine⟨JW h.1,?_,hl⟩
 intro c hc
 rcases rO.1 hc with⟨hc,_⟩ | ⟨hn,rfl⟩
 ·exact h.2.1 c hc
 ·exact⟨hr,hx hn⟩
noncomputable def JX (x:aa_):Bool:=decide (x=eS) || eA x
section
variable {α R:Type}
def mQ (p:α→Bool):List α→Nat→Int
 | [],_ => -1
 | c :: l,n=>if p c=true then(n:Int) else mQ p l (n+1)
theorem vU {p:α→Bool} {s:List α} {d:α} {P:Int→Option R} {F:Int→Option R} (hl:s.length≤1000000000000)
  (hP : ∀ j,P j=if decide (j < (s.length:Int))=true then ix s j d fun y=>if p y=true then F j else P (he_ hf_ (j+1)) else F (-1)) : ∀(ys pre:List α),s=pre++ys→P (pre.length:Int)=F (mQ p ys pre.length)
 | [],pre,h=>by
  rw[hP,aE (br h)]
  rfl
 | y :: ys,pre,h=>by
  have ih:=vU hl hP ys (pre++[y]) (aC h)
  rw[hP,aJ (bF h),bK h,aM h (by omega),ih,af_,ad_]
  show _=F (if p y=true then(pre.length:Int) else mQ p ys (pre.length+1))
  by_cases hp:p y=true
  ·rw[ae_ hp,ae_ hp]
  ·rw[ac_ hp,ac_ hp]
theorem SC {p:α→Bool} : ∀ {l:List α} {n:Nat},mQ p l n = -1 → ∀ c∈l,p c=false
 | [],_,_,c,h=>by cases h
 | x :: l,n,e,c,h=>by
  unfold mQ at e
  by_cases hx:p x=true
  ·rw[ae_ hx] at e
   omega
  ·rw[ac_ hx] at e
   rcases bi_.1 h with rfl | h
   ·simpa using hx
   ·exact SC e c h
theorem SD {p:α→Bool} : ∀ {l:List α} {n:Nat},mQ p l n ≠ -1 → ∃ pre x ys,l=pre++x :: ys∧p x=true∧(∀ c∈pre,p c=false)∧mQ p l n=((n+pre.length:Nat):Int)
 | [],_,e=>bh_ rfl e
 | x :: l,n,e=>by
  unfold mQ at e ⊢
  by_cases hx:p x=true
  ·rw[ae_ hx]
   exact⟨[],x,l,rfl,hx,(fun c h=>by cases h),rfl⟩
  ·rw[ac_ hx] at e ⊢
   obtain⟨pre,z,ys,h1,h2,h3,h4⟩:=SD e
   refine⟨x :: pre,z,ys,by rw[h1]; rfl,h2,?_,?_⟩
   ·intro c hc
    rcases bi_.1 hc with rfl | hc
    ·simpa using hx
    ·exact h3 c hc
   ·rw[h4,aj_]
    congr 1
    omega
theorem Gj {p:α→Bool} {d:α} {P:Int→Int→List α→Option R} {F:List α→Option R}
  (hP : ∀ i j xs,P i j xs=if decide (j < (xs.length:Int))=true then inb xs j (if(!p (aw_ xs (ap_ j) d))=true then inb xs i (P (he_ hf_ (i+1)) (he_ hf_ (j+1)) (List.set xs (ap_ i) (aw_ xs (ap_ j) d))) else P i (he_ hf_ (j+1)) xs)
   else(if(0:Int)≤i then(if i < (xs.length:Int) then RB (List.take (ap_ i) xs++List.replicate (xs.length - ap_ i) d) i F else none) else none)) :
  ∀(ys kept junk:List α),kept.length+junk.length+ys.length≤1000000000000→junk≠[]→P (kept.length:Int) ((kept.length+junk.length:Nat):Int) (kept++junk++ys)=F (kept++ys.filter fun c => !p c)
 | [],kept,junk,hl,hj=>by
  have hjl:=em_.2 hj
  rw[hP,aE (by simp only[af_,bl_]; omega),ae_ (by omega),ae_ (by simp only[af_,bl_]; omega)]
  simp only[List.append_nil,Int.toNat_natCast,List.filter_nil]
  rw[Oa (by omega) (by simp only[af_,List.length_take,List.length_replicate]; omega)]
  simp
 | y :: ys,kept,junk,hl,hj=>by
  have hjl:=em_.2 hj
  rw[aj_] at hl
  have e1:kept++junk++y :: ys=(kept++junk)++y :: ys:=rfl
  have hlen:((kept++junk).length:Int)=((kept.length+junk.length:Nat):Int):=by simp
  have hg:aw_ (kept++junk++y :: ys) (ap_ ((kept.length+junk.length:Nat):Int)) d=y:=by
   rw[←hlen]
   exact iL
  rw[hP,aJ (by rw[af_,af_,aj_]; omega),bO (by omega) (by rw[af_,af_,aj_]; omega),hg]
  by_cases hp:p y=true
  ·rw[hp,ac_ (by decide),wr (by omega) (by omega)]
   have ih:=Gj hP ys kept (junk++[y]) (by simp only[af_,ad_]; omega) (by simp)
   have e2:kept++(junk++[y])++ys=kept++junk++y :: ys:=by simp
   have e3:((kept.length+(junk++[y]).length:Nat):Int)=((kept.length+junk.length:Nat):Int)+1:=by simp; omega
   rw[e2,e3] at ih
   rw[ih,et_ (by simp[hp])]
  ·have hp':p y=false:=by simpa using hp
   rw[hp',ae_ (show(!false)=true from rfl),bO (by omega) (by rw[af_,af_,aj_]; omega),wr (by omega) (by omega),wr (by omega) (by omega)]
   obtain⟨z,zs,rfl⟩ : ∃ z zs,junk=z :: zs:=by
    cases junk with
    | nil=>exact bh_ rfl hj
    | cons z zs=>exact⟨z,zs,rfl⟩
   have ih:=Gj hP ys (kept++[y]) (zs++[y]) (by simp only[af_,bl_,aj_] at hl ⊢; omega) (by simp)
   have e2:List.set (kept++z :: zs++y :: ys) (ap_ (kept.length:Int)) y=kept++[y]++(zs++[y])++ys:=by simp
   have e3:(((kept++[y]).length+(zs++[y]).length:Nat):Int)=((kept.length+(z :: zs).length:Nat):Int)+1:=by simp; omega
   have e4:((kept++[y]).length:Int)=(kept.length:Int)+1:=by simp
   rw[e3,e4] at ih
   rw[e2,ih,fi_ (by simp[hp'])]
   simp
end
theorem xS {s:List ae} (hl:s.length≤1000000000):fP s=some ((s,()),()):=by
 rw[AC]
 unfold dc
 simp only[jx?,dite_true,ab_]
 exact ae_ (by omega)
theorem aaO {s:List ae} {r:am} (hl:s.length≤1000000000) : ∀(ys pre:List ae),s=pre++ys→cz s (s.length:Int) (pre.length:Int) r=some ((mQ (fun c=>bq au c.1 r) ys pre.length,()),(r,())) :=
 vU (p:=fun c:ae=>bq au c.1 r) (d:=av.dflt) (F:=fun j=>some ((j,()),(r,()))) (s:=s) (P:=fun j=>cz s (s.length:Int) j r) (by omega) fun j=>by
  rw[lB]
  simp only[yT,ab_]
theorem Za {s:List ae} {r:am} (hl:s.length≤1000000000):fa s r.1 r.2.1=some ((mQ (fun c=>bq au c.1 r) s 0,()),(r,())):=by
 rw[np,lY]
 cases s with
 | nil=>rfl
 | cons c l =>
  have h2:=aaO (r:=r) hl l [c] rfl
  rw[aJ (by rw[aj_]; omega)]
  have hix : ∀ {β:Type} {F:ae→Option β},ix (c :: l) 0 av.dflt F=F c:=fun {β F}=>bK (pre:=[]) (ys:=l) rfl
  rw[hix,Mu,ab_]
  show(if bq au c.1 r=true then _ else _)=_
  unfold mQ
  by_cases h:bq au c.1 r=true
  ·rw[ae_ h,ae_ h]
   rfl
  ·rw[ac_ h,ac_ h]
   exact h2
theorem ab0 (r:am):(fun c:ae => !bq au c.1 r)=fun c => !decide (c.1=r):=by
 funext c
 congr 1
 rw[bw_,ai_,lq]
theorem Zb {s:List ae} {r:am} (hl:s.length≤1000000000):ew s r.1 r.2.1=some ((jz r s,()),(r,())):=by
 rw[lW,Za hl,ab_]
 dsimp only
 by_cases h:mQ (fun c:ae=>bq au c.1 r) s 0 = -1
 ·rw[h,ae_ (by rfl)]
  have:=SC h
  rw[abZ fun c hc=>by
   have:=this c hc
   intro e
   rw[lq.mpr e] at this
   cases this]
 ·obtain⟨pre,x,ys,h1,h2,h3,h4⟩:=SD h
  rw[ac_ (by simpa using h),h4,Nat.zero_add]
  have hlen:pre.length+1+ys.length≤1000000000:=by rw[h1] at hl; simp at hl; omega
  have hd:=Gj (p:=fun c:ae=>bq au c.1 r) (d:=av.dflt) (P:=fun i j xs=>co i j xs r) (F:=fun l=>some ((l,()),(r,()))) (fun i j xs=>by
   rw[kP]
   simp only[yT,ab_]) ys pre [x] (by simp only[ad_]; omega) (by simp)
  rw[wr (by omega) (by omega)]
  have e1:pre++[x]++ys=s:=by rw[h1]; simp
  have e2:((pre.length+[x].length:Nat):Int)=(pre.length:Int)+1:=by simp
  rw[e1,e2] at hd
  refine hd.trans ?_
  have e3:jz r s=pre++ys.filter fun c => !bq au c.1 r:=by
   rw[ab0 r]
   unfold jz
   rw[h1,List.filter_append,et_ (by simp[lq.mp h2])]
   congr 1
   rw[List.filter_eq_self]
   intro c hc
   have:=h3 c hc
   simp only[Bool.not_eq_true',decide_eq_false_iff_not]
   intro e
   rw[lq.mpr e] at this
   cases this
  rw[e3]
def ltC (a b:ae):Bool:=cl a.1 b.1
theorem Zc:Sort.SWO (α:=am) cl where
 irrefl:=mP
 trans _ _ _ h k:=iI h k
 ntrans x y z h k:=by
  rw[cf_] at h k ⊢
  intro hz
  rcases xP x y with e | e | e
  ·exact h e
  ·subst e
   exact k hz
  ·exact k (iI e hz)
theorem ab2:Sort.SWO (α:=av.den) ltC where
 irrefl x:=Zc.irrefl x.1
 trans x y z h k:=Zc.trans x.1 y.1 z.1 h k
 ntrans x y z h k:=Zc.ntrans x.1 y.1 z.1 h k
theorem Xc {s:List ae} (hl:s.length≤1000000000):eN s=some ((),(fi (α:=av.den) ltC s,())):=by
 rw[mH]
 unfold mo
 simp only[jx?,dite_true,ab_,ba_]
 exact ae_ (by omega)
theorem UY {r:am} {x:aa_} {s:List ae} (h:iw s):fi (α:=av.den) ltC (jz r s++[(r,x,())])=rN r x s :=
 EB ((EA ab2 _).trans (A7 s).symm) (L1 ab2 _) (JV h)
theorem Fe {s:List ae} {r:am} {x:aa_} (h:iw s) (hl:s.length≤1000000):Ap s r x=some ((ed s r x,()),()):=by
 have hd:=JU r s
 rw[QV,xS (by omega),ab_]
 dsimp only
 rw[Zb (by omega),ab_]
 dsimp only
 unfold ed
 by_cases hx:x=eS
 ·subst hx
  rw[ae_ rfl,ac_ (by simp[sG])]
 ·rw[ac_ hx,show(ah_ x == ah_ (⟨#[]⟩:aa_))=decide (x=eS) from sG,bf_ hx,ae_ (by rfl),bi (by simp only[ad_]; omega),Xc (by simp only[af_,ad_]; omega),ab_]
  dsimp only
  rw[UY h]
section
variable {s:List ae} {r:am} {x:aa_} (hl:s.length≤1000000)
include hl
theorem ou : ∀(ys pre acc:List ae),s=pre++ys→acc.length+ys.length≤1000010→iA s x true (pre.length:Int) r.1 r.2.1 acc=some ((acc++jz r ys,()),())
 | [],pre,acc,h,ha=>by
  rw[qv,aE (br h)]
  simp[jz]
 | y :: ys,pre,acc,h,ha=>by
  rw[aj_] at ha
  rw[qv,aJ (bF h)]
  simp only[bc_,ak_,av_,bK h]
  show(if(!bq au y.1 r)=true then _ else _)=_
  by_cases e:y.1=r
  ·rw[lq.mpr e,ac_ (by decide),aM h (by omega),ou ys _ acc (aC h) (by omega),Fd e]
  ·have e':bq au y.1 r=false:=by rw[cf_,ne_eq,lq]; exact e
   rw[e',ae_ (by rfl),bi (by simp only[ad_]; omega),aM h (by omega),ou ys _ _ (aC h) (by simp only[af_,ad_]; omega),xQ e]
   simp
theorem Dy : ∀(ys pre acc:List ae),s=pre++ys→acc.length+ys.length≤1000000→iA s x false (pre.length:Int) r.1 r.2.1 acc=some ((acc++rN r x ys,()),())
 | [],pre,acc,h,ha=>by
  rw[qv,aE (br h),ae_ (by rfl),bi (by simp only[ad_,bl_] at ha ⊢; omega)]
  rfl
 | y :: ys,pre,acc,h,ha=>by
  rw[aj_] at ha
  rw[qv,aJ (bF h),ae_ (by rfl)]
  simp only[bK h,Fb,ab_]
  show(if(!cl y.1 r)=true then _ else _)=_
  unfold rN
  cases k:cl y.1 r with
  | true =>
   have e:=rM k
   have e':bq au y.1 r=false:=by rw[cf_,ne_eq,lq]; exact e
   rw[ac_ (by decide),ae_ rfl]
   show(if(!bq au y.1 r)=true then _ else _)=_
   rw[e',ae_ (by rfl),bi (by simp only[ad_]; omega),aM h (by omega),Dy ys _ _ (aC h) (by simp only[af_,ad_]; omega)]
   simp
  | false =>
   rw[ae_ (by decide),ac_ (by decide),bi (by simp only[ad_]; omega)]
   show(if(!bq au y.1 r)=true then _ else _)=_
   by_cases e:y.1=r
   ·rw[lq.mpr e,ac_ (by decide),aM h (by omega),ou hl ys _ _ (aC h) (by simp only[af_,ad_]; omega),Fd e]
    simp
   ·have e':bq au y.1 r=false:=by rw[cf_,ne_eq,lq]; exact e
    rw[e',ae_ (by rfl),bi (by simp only[af_,ad_]; omega),aM h (by omega),ou hl ys _ _ (aC h) (by simp only[af_,ad_]; omega),xQ e]
    simp
theorem LG:Hh s r x=some ((ed s r x,()),()):=by
 rw[V4]
 unfold ed
 by_cases hx:x=eS
 ·subst hx
  rw[ae_ rfl,show(ah_ eS == ah_ (⟨#[]⟩:aa_))=decide (eS=eS) from sG,bb_ rfl]
  exact ou hl s [] [] rfl (by simp only[bl_]; omega)
 ·rw[ac_ hx]
  have:(ah_ x == ah_ (⟨#[]⟩:aa_))=false:=by
   rw[show(ah_ x == ah_ (⟨#[]⟩:aa_))=decide (x=eS) from sG,bf_ hx]
  rw[this]
  exact Dy hl s [] [] rfl (by simp only[bl_]; omega)
end
theorem aaP:dk eS=(eS,true):=by
 have h:=(kO (x:=eS) (by decide)).2.1
 rw[xF,om (by decide)] at h
 have hp:(plain eS && decide ((eS.size:Int)≤200))=true:=by decide +kernel
 have he:(ah_ eS == ah_ (⟨#[]⟩:aa_))=decide (eS=eS):=sG
 rw[hp,he,bb_ rfl] at h
 simp only[ab_,bc_,ak_,av_,ba_,bd_,Prod.mk.injEq,and_true] at h
 exact eq_ h.1.symm h.2.symm
theorem Zd (x:aa_):((dk x).2 && decide ((dk x).1=x))=JX x:=by
 unfold JX
 by_cases h:x=eS
 ·subst h
  rw[aaP]
  simp
 ·rw[bf_ h,cz_]
  unfold eA
  rw[bf_ h]
  simp
theorem eqD {a b:aa_}:(ah_ a == ah_ b)=decide (a=b):=sG
theorem eqE {a:aa_}:(ah_ a == ah_ (⟨#[]⟩:aa_))=decide (a=eS):=sG
section
end
section
end
section
variable {c:List Int} (hc:Ir c)
include hc
theorem Ze {β:Type} {Q:β→Prop} {s:aI} (n:Nat) {m:Int} {f:(aa_×Unit)×aI×Unit→Option β} (e:m=(n:Int)) (hn:n≤3) (h:Rd c s) (k : ∀ z,z.1.1.size≤6400→Rd c z.2.1→Ok Q (f z)):Ok Q ((bu m s).bind f):=by
 subst e
 have h4:4 ^ n≤64:=bq_ (Nat.pow_le_pow_right (n:=4) (by decide) hn) (by decide)
 exact Ok.bnd (Px hc n hn h) fun z hz=>k z (by have:=hz.1; omega) hz.2
set_option maxHeartbeats 4000000 in
theorem Zf {s:aI} (h:Rd c s):Ok (fun z=>z.1.1.size≤6401∧Rd c z.2.1) (dP s):=by
 rw[Jq]
 repeat' first
  | refine rH hc (by assumption) (by decide) fun _ _ _ _ => ?_
  | refine Ze hc 2 rfl (by decide) (by assumption) fun _ _ _ => ?_
  | refine Ze hc 1 rfl (by decide) (by assumption) fun _ _ _ => ?_
  | refine It (by omega) (by omega) fun _ _ => ?_
  | refine Ok.inbL ⟨#[]⟩ (by assumption) (by assumption) (by decide) (by decide) (by decide) fun _ => ?_
  | (refine Ok.cats (by simp only[WW]; omega) ?_; try dsimp only)
  | refine Ok.ite (fun _ => ?_) fun _ => ?_
  | refine Ok.one ⟨?_,by assumption⟩
 all_goals (try dsimp only)
 all_goals (try simp only[size_append,WW])
 all_goals first | omega | decide
end
noncomputable def jw (s:List ae) (r:am) (x:aa_):List ae×Bool :=
 if aO s=true∧bM r=true∧(dk x).2=true∧(ed s r (dk x).1).length≤120 then(ed s r (dk x).1,true) else([],false)
theorem LH {s:List ae} {r:am} {x:aa_} (hl:s.length≤1000000) (hs : ∀ c∈s,c.2.1.size≤9223372036854775807) (hx:x.size≤9223372036854775807):Hi s r x=some (((jw s r x).1,(jw s r x).2,()),()):=by
 rw[V5,(kO hx).2.1,Fc hs (by omega),kW]
 simp only[ab_]
 unfold jw
 cases h1:aO s with
 | false=>simp
 | true =>
  cases h2:bM r with
  | false=>simp
  | true =>
   cases h3:(dk x).2 with
   | false=>simp
   | true =>
    rw[LG hl]
    simp only[ab_,bc_,ak_,av_]
    by_cases h4:(ed s r (dk x).1).length≤120
    ·rw[aE (by omega),ae_ (by simp[h4])]
    ·rw[aJ (by omega),ac_ (by simp[h4])]
def Ff (s:List ae):Prop:=s.length≤121 ∧ ∀ c∈s,c.2.1.size≤6401
theorem Ff.sz {s:List ae} (h:Ff s) : ∀ c∈s,c.2.1.size≤9223372036854775807:=fun c hc=>bq_ (h.2 c hc) (by decide)
def Gk (s:List ae):Prop:=s.length≤120 ∧ ∀ c∈s,c.2.1.size≤6401
theorem Gk.up {s:List ae} (h:Gk s):Ff s:=⟨by have:=h.1; omega,h.2⟩
theorem Zg {s:List ae} {r:am} {x:aa_} {n:Nat} (hs : ∀ c∈s,c.2.1.size≤n) (hx:x.size≤n) : ∀ c∈ed s r x,c.2.1.size≤n:=by
 intro c hc
 rcases rO.1 hc with h | ⟨_,rfl⟩
 ·exact hs c h.1
 ·exact hx
theorem LI {s:List ae} {r:am} {x:aa_} (h : ∀ c∈s,c.2.1.size≤6401):Gk (jw s r x).1:=by
 unfold jw
 split
 ·rename_i k
  exact⟨k.2.2.2,Zg h (bq_ (LF x) (by decide))⟩
 ·exact⟨di_ _,fun c hc=>by cases hc⟩
theorem aaQ {β:Type} {Q:β→Prop} {s:List ae} {r:am} {x:aa_} {f:((List ae)×Bool×Unit)×Unit→Option β} (h:Ff s) (hx:x.size≤6401) (k : ∀ z,Gk z.1.1→Ok Q (f z)):Ok Q ((Hi s r x).bind f) :=
 Ok.bnd (P:=fun z=>Gk z.1.1) ⟨_,LH (by have:=h.1; omega) h.sz (by omega),LI h.2⟩ k
section
variable {c:List Int} (hc:Ir c)
include hc
theorem rP {β:Type} {Q:β→Prop} {s:aI} {f:(aa_×Unit)×aI×Unit→Option β} (h:Rd c s) (k : ∀ z,z.1.1.size≤6401→Rd c z.2.1→Ok Q (f z)):Ok Q ((dP s).bind f):=Ok.bnd (Zf hc h) fun z hz=>k z hz.1 hz.2
theorem Dz : ∀(n:Nat) {s:aI} {out:List ae},n≤1000→Rd c s→Gk out→Ok (fun z=>Ff z.1.1∧Rd c z.2.1) (iP (n:Int) s out)
 | 0,s,out,_,h,ho=>by
  rw[kA,aE (by decide)]
  refine s6 hc h (by decide) fun z hz=>Ok.ite (fun _ => ?_) fun _=>Ok.one ⟨ho.up,hz⟩
  refine sx hc hz fun y _ hy=>rP hc hy fun x hx hz' => ?_
  have hl:=ho.1
  refine Ok.app (by simp only[ad_]; omega) (Ok.one ⟨⟨by simp only[af_,ad_]; omega,fun d hd => ?_⟩,hz'⟩)
  rcases bo_.1 hd with hd | hd
  ·exact ho.2 d hd
  ·rw[be_.1 hd]
   exact hx
 | n+1,s,out,hn,h,ho=>by
  have hw:IntKind.i64.wrap (((n+1:Nat):Int) - 1)=(n:Int):=by rw[wr (by omega) (by omega)]; omega
  rw[kA,aJ (by omega),hw]
  refine sx hc h fun y _ hy=>rP hc hy fun x hx hz=>aaQ ho.up hx fun w hw=>Ok.ite (fun _ => ?_) fun _ => ?_
  ·exact Dz n (by omega) hz hw
  ·exact Dz n (by omega) hz ho
end
theorem ac3 (a b:am):bq au a b=decide (a=b):=by
 by_cases h:a=b
 ·rw[bb_ h]; exact(kJ rfl).2 h
 ·rw[bf_ h,cf_]; exact fun k=>h ((kJ rfl).1 k)
theorem LJ {α:Type} [DecidableEq α] {d:α} {xs ys:List α} {P:Int→Option ((Bool×Unit)×Unit)} (hl:xs.length≤1000000000) (hxy:ys.length=xs.length)
  (hP : ∀ i,P i=if(decide (i < (am_ xs:Int)))=true then(ix xs i d fun y1=>(ix ys i d fun y2=>(if(!(decide (y1=y2)))=true then(some ((false,()),(()))) else(P (he_ hf_ (i+1)))))) else(some ((true,()),(())))) : ∀(a b pa pb:List α),xs=pa++a→ys=pb++b→pa.length=pb.length→P (pa.length:Int)=some ((decide (a=b),()),())
 | [],b,pa,pb,ha,hb,hp=>by
  have:b=[]:=by
   have e:=an_ am_ ha
   have e':=an_ am_ hb
   simp only[af_,bl_] at e e'
   exact List.length_eq_zero_iff.1 (by omega)
  rw[hP,aE (br ha),this]
  rfl
 | x :: a,[],pa,pb,ha,hb,hp=>by
  have e:=an_ am_ ha
  have e':=an_ am_ hb
  simp only[af_,bl_,aj_] at e e'
  omega
 | x :: a,y :: b,pa,pb,ha,hb,hp=>by
  rw[hP,aJ (bF ha),bK ha,hp,bK hb,←hp,aM ha (by omega),LJ hl hxy hP a b (pa++[x]) (pb++[y]) (aC ha) (aC hb) (by simp[hp])]
  by_cases e:x=y
  ·rw[bb_ e]
   subst e
   simp
  ·rw[bf_ e]
   simp[e]
theorem ab4 {α:Type} {xs ys:List α}:((xs.length:Int) != (ys.length:Int)) = !decide (xs.length=ys.length):=by
 by_cases h:xs.length=ys.length
 ·simp[h]
 ·have:(xs.length:Int)≠(ys.length:Int):=by omega
  simp[h,this]
theorem PL {xs ys:List am} (hl:xs.length≤1000000000):wv xs ys=some ((decide (xs=ys),()),()):=by
 rw[OB,ab4]
 by_cases h:xs.length=ys.length
 ·rw[bb_ h,ac_ (by decide)]
  exact LJ (d:=au.dflt) (P:=fun i=>qq xs ys i) hl h.symm (fun i=>by rw[HQ]; simp only[ac3]) xs ys [] [] rfl rfl rfl
 ·rw[bf_ h,ae_ (by rfl),bf_ (fun e=>h (an_ _ e))]
theorem DA {s:List ae} {r:am} (hs : ∀ c∈s,c.2.1.size≤9223372036854775807) (hl:s.length≤1000000000):wx s r=some ((if aO s=true then bV r s else eS,()),()):=by
 rw[OE,xO hs hl,ab_]
 cases h:aO s with
 | false=>rfl
 | true =>
  rw[PJ (by omega)]
  rfl
theorem ab5 {s:List ae} {r:am} {x:aa_} (hx:x.size≤9223372036854775807) (h:(jw s r x).2=true):aO (jw s r x).1=true:=by
 unfold jw at h ⊢
 by_cases k:aO s=true∧bM r=true∧(dk x).2=true∧(ed s r (dk x).1).length≤120
 ·rw[ae_ k]
  exact xR k.1 k.2.1 (fun hne=>(aaL hx k.2.2.1).resolve_left hne) k.2.2.2
 ·rw[ac_ k] at h
  cases h
section
variable {s a:List ae} (hs:aO s=true) (ha:aO a=true)
include hs ha
end
section
variable {s:List ae} {a:ak} (hs : ∀ c∈s,c.2.1.size≤9223372036854775807) (hl:s.length≤1000000)
include hs hl
end
theorem ZU {x:aa_} (hx:x.size≤9223372036854775807):tR x=some (((ck x).getD [],(ck x).isSome,()),()):=by
 have hl:(lb x).length≤9223372036854775807:=by rw[iR]; exact hx
 have hc:cH x (⟨#[61]⟩:aa_)=some ((ba (if [61].isPrefixOf (lb x)=true then(lb x).drop 1 else lb x),[61].isPrefixOf (lb x),()),()):=by
  have:=sZ (lb x) [61] hl
  rwa[dM] at this
 have hsz:(ba ((lb x).drop 1)).size≤9223372036854775807:=by
  rw[aK,List.length_drop]
  omega
 have hp:List.isPrefixOf [61] (lb x)=decide ((lb x).head? = some 61):=by
  cases lb x with
  | nil=>rfl
  | cons b l =>
   by_cases h:b=61
   ·subst h
    rfl
   ·simp[List.isPrefixOf,h,Ne.symm h]
 rw[Ms,hc,hp]
 simp only[ab_]
 unfold ck
 by_cases hb:(lb x).head? = some 61
 ·simp only[hb,decide_true,bc_,ak_,av_,ba_,true_and]
  rw[(ot hsz).2.1]
  simp only[ab_]
  cases hr:(ft (ba ((lb x).drop 1))).2 with
  | true=>rfl
  | false =>
   rw[(ot hsz).2.2.2 hr]
   rfl
 ·simp only[hb,decide_false,Bool.not_false,ba_,false_and,av_]
  rfl
theorem ZV {x:aa_} (hx:x.size≤9223372036854775807):qm x=some (((ck x).getD [],(ck x).isSome,()),()):=by
 rw[Mv]
 unfold ck
 cases hl':lb x with
 | nil =>
  have he:x=ba []:=by rw[←dM x,hl']
  have h2:(ah_ x == ah_ (⟨#[]⟩:aa_))=true:=by
   rw[he]
   have:(⟨#[]⟩:aa_)=ba []:=rfl
   rw[this,dK]
   simp
  rw[ae_ h2,ac_ (by simp)]
  rfl
 | cons b l =>
  have hx':x=ba (b :: l):=by rw[←hl',dM]
  subst hx'
  have hsz:(ba l).size≤9223372036854775807:=by
   rw[aK] at hx ⊢
   simp only[aj_] at hx
   omega
  have he:(ah_ (ba (b :: l)) == ah_ (⟨#[]⟩:aa_))=false:=by
   have:(⟨#[]⟩:aa_)=ba []:=rfl
   rw[this,dK]
   simp
  rw[he,qA]
  simp only[ak_,av_]
  by_cases hb:b=61
  ·subst hb
   rw[ac_ (by decide)]
   have hsl : ∀(k:aa_→Option ((List ab×(Bool×Unit))×Unit)),jv (ba (61 :: l)) 1 k=k (ba l):=fun k=>by
    have:=ge (l:=61 :: l) (n:=1) (f:=k) (by simp)
    exact this
   rw[hsl,(ot hsz).1]
   simp only[ab_,dg_,true_and,List.drop_succ_cons,List.drop_zero]
   cases hr:(ft (ba l)).2 with
   | true=>rfl
   | false =>
    rw[(ot hsz).2.2.2 hr]
    rfl
  ·have hb':((b.toNat:Int) != 61)=true:=by
    rw[bne_iff_ne]
    intro h
    apply hb
    apply UInt8.toNat_inj.1
    have:((61:UInt8).toNat)=61:=rfl
    omega
   rw[ae_ hb']
   simp only[dg_,bd_,hb,false_and,av_]
   rfl
section
variable {f:List ab} (hf:ef f=true)
include hf
end
section
variable {x:aa_} (hx:x.size≤9223372036854775807)
include hx
end
def aN (s:List ae) (i:Nat):am:=(s.getD i av.dflt).1
def de (s:List ae) (i:Nat):aa_:=(s.getD i av.dflt).2.1
noncomputable def s9 (s:List ae) (i:Nat):List ak:=bZ ((ck (de s i)).getD [])
def qK (s:List ae) (ar:List ak):List Nat:=(bs_ s.length).filter fun k=>ar.any fun a=>cB a (aN s k)
noncomputable def bP (s:List ae) (i:Nat):List Nat:=qK s (s9 s i)
def bc (s:List ae) (F:Nat→ac):List ah:=(bs_ s.length).map fun k=>(aN s k,F k,())
theorem jI {s:List ae} {ar:List ak} {k:Nat}:k∈qK s ar↔k < s.length∧(ar.any fun a=>cB a (aN s k))=true:=by
 unfold qK
 rw[dm_,dy_]
theorem IE {s:List ae} : ∀ i,∀ k∈bP s i,k∈bs_ s.length:=fun i k hk=>dy_.2 (jI.1 hk).1
theorem vV (s:List ae) (ar:List ak) (F:Nat→ac):jy ar (bc s F)=(qK s ar).map fun k=>(aN s k,F k,()):=by
 unfold jy bc qK
 rw[gd_]
 rfl
theorem ab6 {s:List ae} {ar:List ak} {F G:Nat→ac} (h : ∀ k∈qK s ar,F k=G k):jy ar (bc s F)=jy ar (bc s G):=by
 rw[vV,vV]
 exact List.map_congr_left fun k hk=>by rw[h k hk]
theorem xh {f:List ab} {l m:List ah} (hf:ef f=true) (h:jy (bZ f) l=jy (bZ f) m):eZ f l=eZ f m:=by
 rw[←PC (l:=l) hf,←PC (l:=m) hf,h]
theorem Ba {s:List ae} {i:Nat} {f:List ab} {F G:Nat→ac} (hx:(de s i).size≤9223372036854775807) (hf:ck (de s i)=some f) (h : ∀ k∈bP s i,F k=G k):eZ f (bc s F)=eZ f (bc s G):=by
 refine xh (kk hf hx) (ab6 fun k hk=>h k ?_)
 unfold bP s9
 rw[hf]
 exact hk
section
variable (s:List ae) (told:Nat→Bool) (given:Nat→ac)
def ZW (i:Nat):Prop:=told i=true∨ck (de s i)=none∨dG (bP s) i i
open Classical in
noncomputable def lZ:Nat→Nat→ac
 | 0,_=>v0
 | n+1,i=>if told i=true then given i else match ck (de s i) with
  | none=>(bo (lb (de s i))).1
  | some f=>if dG (bP s) i i then vE 5 else eZ f (bc s (lZ n))
noncomputable def dy (i:Nat):ac:=lZ s told given (s.length+1) i
variable {s told given}
theorem Xd {i:Nat} (h:ZW s told i) (n m:Nat):lZ s told given (n+1) i=lZ s told given (m+1) i:=by
 unfold lZ
 by_cases ht:told i=true
 ·rw[ae_ ht,ae_ ht]
 ·rw[ac_ ht,ac_ ht]
  cases hf:ck (de s i) with
  | none=>rfl
  | some f =>
   by_cases hr:dG (bP s) i i
   ·simp only[ae_ hr]
   ·rcases h with h | h | h
    ·exact bh_ h ht
    ·rw[hf] at h; cases h
    ·exact bh_ h hr
open Classical in
theorem SE {i k:Nat} (hk:k∈bP s i):1≤vH (bP s) (bs_ s.length) i:=by
 unfold vH
 have:k∈(bs_ s.length).filter fun j=>decide (dG (bP s) i j):=dm_.2 ⟨IE i k hk,by
  rw[ai_]
  exact .one hk⟩
 exact List.length_pos_of_mem this
theorem Xe (i:Nat):vH (bP s) (bs_ s.length) i≤s.length:=by
 unfold vH
 refine bq_ (fc_ _ _) ?_
 rw[fr_]
 exact aq_ _
theorem Xf (hs : ∀ i,(de s i).size≤9223372036854775807) {i n m:Nat} (ih : ∀ k∈bP s i,lZ s told given n k=lZ s told given m k):lZ s told given (n+1) i=lZ s told given (m+1) i:=by
 unfold lZ
 by_cases ht:told i=true
 ·rw[ae_ ht,ae_ ht]
 ·rw[ac_ ht,ac_ ht]
  cases hf:ck (de s i) with
  | none=>rfl
  | some f =>
   by_cases hr:dG (bP s) i i
   ·simp only[ae_ hr]
   ·simp only[ac_ hr]
    exact Ba (hs i) hf ih
theorem Fg (hs : ∀ i,(de s i).size≤9223372036854775807) : ∀(n m i:Nat),vH (bP s) (bs_ s.length) i < n→vH (bP s) (bs_ s.length) i < m→lZ s told given n i=lZ s told given m i
 | 0,_,_,h,_=>by omega
 | _+1,0,_,_,h=>by omega
 | n+1,m+1,i,hn,hm=>by
  refine Xf hs fun k hk => ?_
  have hp:=SE hk
  by_cases hl:ZW s told k
  ·obtain⟨n',rfl⟩ : ∃ n',n=n'+1:=⟨n - 1,by omega⟩
   obtain⟨m',rfl⟩ : ∃ m',m=m'+1:=⟨m - 1,by omega⟩
   exact Xd hl n' m'
  ·have hc:=H2 (N:=bs_ s.length) IE hk fun hr=>hl (.inr (.inr hr))
   exact Fg hs n m k (by omega) (by omega)
open Classical in
theorem pK (hs : ∀ i,(de s i).size≤9223372036854775807) (i:Nat):dy s told given i=if told i=true then given i else match ck (de s i) with
  | none=>(bo (lb (de s i))).1
  | some f=>if dG (bP s) i i then vE 5 else eZ f (bc s (dy s told given)):=by
 have h1:dy s told given i=lZ s told given (s.length+2) i:=Fg hs _ _ i (by have:=Xe (s:=s) i; omega) (by have:=Xe (s:=s) i; omega)
 rw[h1]
 rfl
end
section
variable {α:Type}
theorem Bb {p:α→Bool} : ∀(l:List α) (n:Nat),decide (mQ p l n≥0)=l.any p
 | [],n=>by
  show decide ((-1:Int)≥0)=false
  decide
 | c :: l,n=>by
  unfold mQ
  rw[List.any_cons]
  by_cases h:p c=true
  ·rw[ae_ h,h,Bool.true_or]
   exact bb_ (by omega)
  ·rw[ac_ h,Bb l (n+1)]
   simp[h]
theorem DB (l:List α) (d:α):(bs_ l.length).map (fun i=>l.getD i d)=l:=by
 apply List.ext_getElem
 ·simp
 ·intro i h1 h2
  simp[ao_,h2]
theorem pL {l:List α} {d:α} {i:Nat} (h:i < l.length):l[i]? = some (l.getD i d):=by
 rw[ao_,List.getElem?_eq_getElem h]
 rfl
theorem km {l:List α} {d:α} {i:Nat} (h:i < l.length):l.getD i d∈l:=List.mem_of_getElem? (pL h)
end
theorem tc {α β:Type} {xs:List α} {i:Nat} {y d:α} {f:α→Option β} (h:xs[i]? = some y):ix xs (i:Int) d f=f y:=bU (nn _) h
section
variable {α:Type} [DecidableEq α]
def aD:List α→List α→List α
 | t,[]=>t
 | t,k :: ks=>if k∈t then aD t ks else aD (t++[k]) ks
theorem Xg (t:List α) (k:α) (ks:List α):aD t (k :: ks)=if k∈t then aD t ks else aD (t++[k]) ks:=rfl
theorem kn : ∀(ks t:List α),∃ ex,aD t ks=t++ex
 | [],t=>⟨[],by simp[aD]⟩
 | k :: ks,t=>by
  unfold aD
  split
  ·exact kn ks t
  ·obtain⟨ex,h⟩:=kn ks (t++[k])
   exact⟨k :: ex,by rw[h]; simp⟩
theorem gl : ∀(ks t:List α) (j:α),j∈aD t ks↔j∈t∨j∈ks
 | [],t,j=>by simp[aD]
 | k :: ks,t,j=>by
  unfold aD
  by_cases hk:k∈t
  ·rw[ae_ hk,gl,bi_]
   constructor
   ·rintro(e | e)
    ·exact .inl e
    ·exact .inr (.inr e)
   ·rintro(e | e | e)
    ·exact .inl e
    ·rw[e]
     exact .inl hk
    ·exact .inr e
  ·rw[ac_ hk,gl,bo_,be_,bi_,or_assoc]
theorem uh : ∀(ks t:List α),t.Nodup→(aD t ks).Nodup
 | [],t,h=>h
 | k :: ks,t,h=>by
  unfold aD
  by_cases hk:k∈t
  ·rw[ae_ hk]
   exact uh ks t h
  ·rw[ac_ hk]
   refine uh ks _ ?_
   rw[List.nodup_append]
   refine⟨h,by simp,fun a ha b hb => ?_⟩
   rw[be_.1 hb]
   exact fun e=>hk (e ▸ ha)
theorem ko : ∀(a b t:List α),aD t (a++b)=aD (aD t a) b
 | [],b,t=>rfl
 | k :: a,b,t=>by
  rw[List.cons_append,Xg,Xg]
  split
  ·exact ko a b t
  ·exact ko a b _
theorem SF : ∀(ks t:List α),(∀ k∈ks,k∈t)→aD t ks=t
 | [],t,_=>rfl
 | k :: ks,t,h=>by
  unfold aD
  rw[ae_ (h k (by simp))]
  exact SF ks t fun j hj=>h j (ar_ _ hj)
theorem tf : ∀(L ks:List α),(aD L ks).length≤L.length+ks.length
 | L,[]=>aq_ _
 | L,k :: ks=>by
  unfold aD
  rw[aj_]
  split
  ·have:=tf L ks
   omega
  ·have:=tf (L++[k]) ks
   rw[af_,ad_] at this
   omega
theorem rQ (t:List α) (k:α):aD t [k]=if k∈t then t else t++[k]:=rfl
theorem Xh (t:List α) (k:α) (ks:List α):aD t (k :: ks)=aD (aD t [k]) ks:=ko [k] ks t
theorem Bc : ∀(ks L t:List α),aD L (aD t ks)=aD (aD L t) ks
 | [],L,t=>rfl
 | k :: ks,L,t=>by
  by_cases hk:k∈t
  ·have h2:k∈aD L t:=(gl _ _ _).2 (.inr hk)
   have e1:aD t (k :: ks)=aD t ks:=by
    conv=>lhs; unfold aD
    rw[ae_ hk]
   have e2:aD (aD L t) (k :: ks)=aD (aD L t) ks:=by
    conv=>lhs; unfold aD
    rw[ae_ h2]
   rw[e1,e2]
   exact Bc ks L t
  ·have e1:aD t (k :: ks)=aD (t++[k]) ks:=by
    conv=>lhs; unfold aD
    rw[ac_ hk]
   rw[e1,Bc ks L (t++[k]),ko,←Xh]
theorem ab7 (L t:List α):aD L (aD [] t)=aD L t:=by
 rw[Bc]
 rfl
theorem IG (t:List α) (j:α):j∈aD [] t↔j∈t:=by
 rw[gl]
 simp
theorem SG (t:List α):(aD [] t).Nodup:=uh t [] List.nodup_nil
theorem acC (a b:List α):aD [] (a++b)=aD (aD [] a) b:=ko a b []
theorem acD (t ks:List α):aD [] (aD t ks)=aD (aD [] t) ks:=Bc ks [] t
theorem tg : ∀(l m:List α),l.Nodup→(∀ x∈l,x∈m)→l.length≤m.length
 | [],m,_,_=>di_ _
 | a :: l,m,hd,h=>by
  have hd:=List.nodup_cons.1 hd
  have ha:=h a (by simp)
  have h1:=tg l (m.erase a) hd.2 (fun x hx=>(List.mem_erase_of_ne (a:=x) (b:=a) (fun e:x=a=>hd.1 (e ▸ hx))).2 (h x (ar_ _ hx)))
  rw[List.length_erase_of_mem ha] at h1
  have:1≤m.length:=List.length_pos_of_mem ha
  rw[aj_]
  omega
end
theorem PM {f:List ab} (hf:f.length≤60) : ∀(ys pre:List ab) (acc:List ak),f=pre++ys→acc.length≤pre.length→lN f (f.length:Int) (pre.length:Int) acc=some ((acc++bZ ys,()),())
 | [],pre,acc,h,ha=>by
  rw[zd,aE (br h)]
  simp[bZ]
 | y :: ys,pre,acc,h,ha=>by
  have hlen:pre.length≤60:=by
   have:=an_ am_ h
   simp only[af_,aj_] at this
   omega
  have ih:=PM hf ys (pre++[y])
  rw[zd,aJ (bF h),bK h,aM h (by omega)]
  simp only[zu,ab_]
  have hsum:acc++[dB y]++bZ ys=acc++(dB y :: bZ ys):=by simp
  have happ:(acc.length+([dB y]:List ak).length)*32≤140737488355328:=by simp only[ad_]; omega
  by_cases h2:y.1=2
  ·rw[ae_ (by simpa using h2),bi happ,ih (acc++[dB y]) (aC h) (by simp only[af_,ad_]; omega),hsum]
   simp[bZ,sy,h2]
  ·rw[ac_ (by simpa using h2)]
   by_cases h3:y.1=3
   ·rw[ae_ (by simpa using h3),bi happ,ih (acc++[dB y]) (aC h) (by simp only[af_,ad_]; omega),hsum]
    simp[bZ,sy,h3]
   ·rw[ac_ (by simpa using h3),ih acc (aC h) (by simp only[af_,ad_]; omega)]
    simp[bZ,sy,h2,h3]
theorem PN {f:List ab} (hl:f.length≤60):vg f=some ((bZ f,()),()):=by
 rw[QR,show(0:Int)=(([]:List ab).length:Int) from rfl,PM hl f [] [] rfl (aq_ _)]
 rfl
theorem PO {f:List ab} (hf:f.length≤60) : ∀(ys pre:List ab) (acc:List ak),f=pre++ys→acc.length≤pre.length→lO f (pre.length:Int) acc=some ((acc++bZ ys,()),())
 | [],pre,acc,h,ha=>by
  rw[ze,aE (br h)]
  simp[bZ]
 | y :: ys,pre,acc,h,ha=>by
  have hlen:pre.length≤60:=by
   have:=an_ am_ h
   simp only[af_,aj_] at this
   omega
  have ih:=PO hf ys (pre++[y])
  rw[ze,aJ (bF h),bK h,aM h (by omega)]
  have hsum:acc++[dB y]++bZ ys=acc++(dB y :: bZ ys):=by simp
  have happ : ∀ a:ak,(acc.length+([a]:List ak).length)*32≤140737488355328:=fun a=>by simp only[ad_]; omega
  by_cases h2:y.1=2
  ·have ha2:(y.2.2.2.1.1,y.2.2.2.1.1,())=dB y:=by unfold dB; rw[ae_ h2]
   rw[ae_ (by simpa using h2)]
   simp only[bK h]
   rw[ha2,bi (happ _),ih (acc++[dB y]) (aC h) (by simp only[af_,ad_]; omega),hsum]
   simp[bZ,sy,h2]
  ·have ha3:(y.2.2.2.1.1,y.2.2.2.2.1.1,())=dB y:=by unfold dB; rw[ac_ h2]
   rw[ac_ (by simpa using h2)]
   by_cases h3:y.1=3
   ·rw[ae_ (by simpa using h3)]
    simp only[bK h]
    rw[ha3,bi (happ _),ih (acc++[dB y]) (aC h) (by simp only[af_,ad_]; omega),hsum]
    simp[bZ,sy,h3]
   ·rw[ac_ (by simpa using h3),ih acc (aC h) (by simp only[af_,ad_]; omega)]
    simp[bZ,sy,h2,h3]
theorem ab8 {f:List ab} (hf:ef f=true):FO f=some ((bZ f,()),()):=by
 have hs:=s8 hf
 have hl:=hs.1
 rw[QW,lF (f:=f) (by omega) hs.2.1 hs.2.2,hf]
 simp only[ab_,bc_,ak_,av_]
 rw[show(0:Int)=(([]:List ab).length:Int) from rfl,PO hl f [] [] rfl (aq_ _)]
 rfl
noncomputable def eR (x:aa_):List ak:=bZ ((ck x).getD [])
theorem II (f:List ab):(bZ f).length≤f.length:=by
 unfold bZ
 rw[List.length_map]
 exact fc_ _ _
theorem JY {x:aa_} (hx:x.size≤9223372036854775807):((ck x).getD []).length≤60:=by
 cases h:ck x with
 | none=>exact di_ _
 | some f=>exact(s8 (kk h hx)).1
theorem pM {x:aa_} (hx:x.size≤9223372036854775807):(eR x).length≤60:=bq_ (II _) (JY hx)
theorem sA {x:aa_} (hx:x.size≤9223372036854775807):rp x=some ((eR x,()),()):=by
 rw[QX,ZV hx,ab_]
 unfold eR
 cases h:ck x with
 | none=>rfl
 | some f =>
  dsimp only[Option.isSome_some,Option.getD_some]
  rw[ac_ (by decide),ab8 (kk h hx)]
  rfl
theorem Zh {ar:List ak} {r:am} (hl:ar.length≤1000000000):cm ar (ar.length:Int) 0 r=some ((mQ (fun a=>cB a r) ar 0,()),(r,())):=by
 have:=vU (s:=ar) (d:=ax.dflt) (p:=fun a=>cB a r) (P:=fun j=>cm ar (ar.length:Int) j r) (F:=fun j=>some ((j,()),(r,()))) (by omega) (fun j=>by
  rw[gI]
  simp only[EZ,vK,ab_]) ar [] rfl
 exact this
theorem aaR {ar:List ak} {n i:Int} {r:am}:fb ar n i r.1 r.2.1=cm ar n i r:=by
 rw[nr,gI]
 simp only[TW,EZ] <;> rfl
theorem Zi {ar:List ak} (r:am) (hl:ar.length≤1000000000):Tj ar r=some ((ar.any fun a=>cB a r,()),()):=by
 rw[Yo,nl,o0,aaR,Zh hl]
 simp only[ab_,Bb]
theorem Fh {l:List am} {r:am} (hl:l.length≤1000000000) : ∀(ys pre:List am),l=pre++ys→wz l (pre.length:Int) r.1 r.2.1=some ((decide (r∈ys),()),())
 | [],pre,h=>by
  rw[C0,aE (br h)]
  simp
 | y :: ys,pre,h=>by
  rw[C0,aJ (bF h),bK h,aM h (by omega),Fh hl ys _ (aC h)]
  show(if bq au y r=true then _ else _)=_
  by_cases e:y=r
  ·rw[ae_ (by rw[lq]; exact e)]
   simp[e]
  ·rw[ac_ (by rw[lq]; exact e)]
   simp[Ne.symm e]
theorem xi {l:List am} (r:am) (hl:l.length≤1000000000):oc l r=some ((decide (r∈l),()),()):=by
 rw[Wd]
 exact Fh hl l [] rfl
theorem aaS {l:List am} {r:am} (hl:l.length≤1000000000):lV l r=some ((decide (r∈l),()),()):=by
 have h:gb l (l.length:Int) 0 r.1 r.2.1=some ((mQ (fun y=>bq au r y) l 0,()),()):=vU (s:=l) (d:=au.dflt) (p:=fun y=>bq au r y) (P:=fun j=>gb l (l.length:Int) j r.1 r.2.1) (F:=fun j=>some ((j,()),())) (by omega) (fun j=>xH) l [] rfl
 rw[xG,BT,h]
 simp only[ab_,Bb]
 have e:(l.any fun y=>bq au r y)=decide (r∈l):=by
  rw[bw_,List.any_eq_true,ai_]
  constructor
  ·rintro⟨y,hy,h⟩
   rw[lq] at h
   rw[h]
   exact hy
  ·intro h
   exact⟨r,h,by rw[lq]⟩
 rw[e]
section
variable {s:List ae} (hl:s.length≤1000000) {ar:List ak} (ha:ar.length≤1000000)
include hl ha
theorem PP {y:ae} {pre ys:List ae} (h:s=pre++y :: ys) {acc:List am} : ∀(bs pa:List ak) (b:Bool),ar=pa++bs→oj s (pre.length:Int) b (pa.length:Int) acc ar=if(b || bs.any fun a=>cB a y.1)=true then app acc [y.1] 16 (fun y3=>kb s (he_ hf_ ((pre.length:Int)+1)) y3 ar) else kb s (he_ hf_ ((pre.length:Int)+1)) acc ar
 | [],pa,b,e=>by
  rw[zi,aE (br e),bK h,List.any_nil,Bool.or_false]
 | a :: bs,pa,b,e=>by
  have ih:=PP h (acc:=acc) bs (pa++[a])
  rw[zi,aJ (bF e),aM e (by omega)]
  cases b with
  | true =>
   rw[ae_ rfl,ih true (aC e)]
   simp only[Bool.true_or]
  | false =>
   have hg:aw_ ar (ap_ (pa.length:Int)) ax.dflt=a:=by rw[e]; exact iL
   rw[ac_ (by decide),bK h,gH e,hg,qC,ab_,ih _ (aC e)]
   simp only[List.any_cons,cz_]
theorem DC : ∀(ys pre:List ae) (acc:List am),s=pre++ys→acc.length≤pre.length→kb s (pre.length:Int) acc ar=some ((acc++(ys.filter fun c=>ar.any fun a=>cB a c.1).map (·.1),()),())
 | [],pre,acc,h,hb=>by
  rw[zg,aE (br h)]
  simp
 | y :: ys,pre,acc,h,hb=>by
  have hlen:s.length=pre.length+(ys.length+1):=by rw[h]; simp
  have e:=PP hl ha h (acc:=acc) ar [] false rfl
  rw[zg,aJ (bF h)]
  refine e.trans ?_
  rw[aM h (by omega),cz_]
  by_cases c:(ar.any fun a=>cB a y.1)=true
  ·rw[ae_ c,bi (by simp only[ad_]; omega),DC ys _ _ (aC h) (by simp only[af_,ad_]; omega),fi_ (p:=fun c:ae=>ar.any fun a=>cB a c.1) c]
   simp
  ·rw[ac_ c,DC ys _ _ (aC h) (by simp only[af_,ad_]; omega),et_ (p:=fun c:ae=>ar.any fun a=>cB a c.1) c]
end
theorem Zj {s:List ae} (h:aO s=true) (r:am):(bV r s).size≤200:=by
 rcases A9 (q:=r) (bN h) with⟨c,hc,_,e⟩ | ⟨_,e⟩
 ·rw[←e]
  exact qJ h c hc
 ·rw[e]
  decide
theorem aaT {s:List ae} (h:aO s=true) (r:am):oZ s r=some (((s.filter fun c=>(eR (bV r s)).any fun a=>cB a c.1).map (·.1),()),()):=by
 have h1:=bB h
 have h2:(bV r s).size≤9223372036854775807:=bq_ (Zj h r) (by decide)
 have h3:=pM h2
 rw[QZ,PK (by omega),ab_,sA h2,ab_]
 dsimp only
 exact DC (by omega) (by omega) s [] [] rfl (aq_ _)
theorem aaU (s:List ae) (ar:List ak):(qK s ar).map (aN s)=(s.filter fun c=>ar.any fun a=>cB a c.1).map (·.1):=by
 have key : ∀ t:List ae,(bs_ s.length).map (fun i=>s.getD i av.dflt)=t→(qK s ar).map (aN s)=(t.filter fun c=>ar.any fun a=>cB a c.1).map (·.1):=by
  rintro _ rfl
  rw[gd_,List.map_map]
  rfl
 exact key s (DB s _)
theorem Em {s:List ae} (h:iw s) {i:Nat} (hi:i < s.length):bV (aN s i) s=de s i:=pI h (km hi)
theorem PQ {s:List ae} (h:aO s=true) {i:Nat} (hi:i < s.length):oZ s (aN s i)=some (((bP s i).map (aN s),()),()):=by
 rw[aaT h,Em (bN h) hi]
 unfold bP
 rw[aaU]
 rfl
theorem Xi {s pre ys:List ae} {y:ae} (h:s=pre++y :: ys):aN s pre.length=y.1:=by
 unfold aN
 rw[h,ao_]
 simp
noncomputable def gF (s:List ae):List (List ab):=s.map fun c=>(ck c.2.1).getD []
noncomputable def gL (s:List ae):List (List Int):=s.map fun c=>(qK s (eR c.2.1)).map fun k:Nat=>(k:Int)
noncomputable def gr (s:List ae):List ae×(List (List ab)×(List (List Int)×Unit)):=(s,gF s,gL s,())
theorem ZX {s:List ae} {i:Nat} (h:i < s.length):(gF s)[i]? = some ((ck (de s i)).getD []):=by
 unfold gF
 rw[gh_,pL (d:=av.dflt) h]
 rfl
theorem UZ {s:List ae} {i:Nat} (h:i < s.length):(gL s)[i]? = some ((bP s i).map fun k:Nat=>(k:Int)):=by
 unfold gL
 rw[gh_,pL (d:=av.dflt) h]
 rfl
theorem zE (s:List ae) (ar:List ak):(qK s ar).length≤s.length:=by
 unfold qK
 have:=fc_ (fun k=>ar.any fun a=>cB a (aN s k)) (bs_ s.length)
 rw[fr_] at this
 exact this
section
variable {s:List ae} (hl:s.length≤1000000) (hs : ∀ c∈s,c.2.1.size≤9223372036854775807)
include hl
theorem PR {x0 x1:List ae} {x2 x3:Int} {x7 x11:List ae} {x12 x14:List (List ab)} {x13 x15:List (List Int)} {f:List ab} {ar:List ak} (ha:ar.length≤1000000) : ∀(ys pre:List ae) (acc:List Int),s=pre++ys→acc.length≤pre.length →
  mC x0 x1 x2 x3 s (s.length:Int) (pre.length:Int) x7 f ar acc x11 x12 x13 x14 x15=app x14 [f] 24 fun y3=>app x15 [acc++((List.range' pre.length ys.length).filter fun k=>ar.any fun a=>cB a (aN s k)).map fun k:Nat=>(k:Int)] 24 fun y4=>my x0 x1 x2 (he_ hf_ (x3+1)) x7 x11 x12 x13 y3 y4
 | [],pre,acc,h,hb=>by
  rw[wO,aE (br h)]
  simp
 | y :: ys,pre,acc,h,hb=>by
  have hlen:s.length=pre.length+(ys.length+1):=by rw[h]; simp
  have ih:=PR (x0:=x0) (x1:=x1) (x2:=x2) (x3:=x3) (x7:=x7) (x11:=x11) (x12:=x12) (x13:=x13) (x14:=x14) (x15:=x15) (f:=f) ha ys (pre++[y])
  have e0:(pre++[y]).length=pre.length+1:=by simp
  rw[wO,aJ (bF h),bK h,Zi _ (by omega),ab_,aM h (by omega)]
  rw[aj_,List.range'_succ,List.filter_cons,Xi h]
  rw[e0] at ih
  dsimp only
  by_cases c:(ar.any fun a=>cB a y.1)=true
  ·rw[ae_ c,ae_ c,bi (by simp only[ad_]; omega),e0,ih _ (aC h) (by simp only[af_,ad_]; omega)]
   simp
  ·rw[ac_ c,ac_ c,e0,ih _ (aC h) (by omega)]
include hs
theorem LK : ∀(ys pre:List ae) (fs:List (List ab)) (ls:List (List Int)),s=pre++ys→fs.length=pre.length→ls.length=pre.length →
  my s s (s.length:Int) (pre.length:Int) s [] [] [] fs ls=some (((s,fs++ys.map (fun c=>(ck c.2.1).getD []),ls++ys.map (fun c=>(qK s (eR c.2.1)).map fun k:Nat=>(k:Int)),()),()),())
 | [],pre,fs,ls,h,h1,h2=>by
  rw[wG,aE (br h)]
  simp
 | y :: ys,pre,fs,ls,h,h1,h2=>by
  have hlen:s.length=pre.length+(ys.length+1):=by rw[h]; simp
  have hy:y.2.1.size≤9223372036854775807:=hs y (by rw[h]; simp)
  have h3:=pM hy
  have hg:=PR hl (x0:=s) (x1:=s) (x2:=(s.length:Int)) (x3:=(pre.length:Int)) (x7:=s) (x11:=[]) (x12:=[]) (x13:=[]) (x14:=fs) (x15:=ls) (f:=(ck y.2.1).getD []) (ar:=eR y.2.1) (by omega) s [] [] rfl (aq_ _)
  rw[wG,aJ (bF h),bK h,ZU hy,ab_,PN (JY hy),ab_]
  refine hg.trans ?_
  rw[bi (by simp only[ad_]; omega),bi (by simp only[ad_]; omega),aM h (by omega),LK ys _ _ _ (aC h) (by simp[h1]) (by simp[h2])]
  have e:((List.range' ([]:List ae).length s.length).filter fun k=>(eR y.2.1).any fun a=>cB a (aN s k))=qK s (eR y.2.1):=by
   unfold qK
   rw[List.range_eq_range']
   rfl
  rw[e]
  simp
theorem PS:CJ s=some ((gr s,()),()):=by
 rw[Oq]
 exact LK hl hs s [] [] [] rfl rfl rfl
end
end Go.Proofs.YthbkdfcmjmmpgaaGreatDoor.Abs
