/- Plain laws: what a run keeps: more fuel, sheets, places that are not set. -/
import Derived.Test.YthbkdfcmjmmpgaaGreatDoorZM12
import Derived.Test.YthbkdfcmjmmpgaaGreatDoorZM10
set_option linter.unusedVariables false
set_option linter.unusedSimpArgs false
set_option linter.unusedSectionVars false
open Bool renaming and_eq_true→ag_
open ByteArray renaming size_append→fo_
open Go.IntKind renaming i64→hf_,wrap→he_
open Int renaming le_refl→co_,tmod_lt_of_pos→ha_
open List renaming any_eq_true→ds_,getElem?_eq_getElem→as_,getElem_of_mem→dk_,length_append→af_,length_cons→aj_,length_nil→bl_,length_singleton→ad_,length→am_,mem_append_left→cq_,mem_append→bo_,mem_filter→dm_,mem_flatMap→eo_,mem_of_getElem?→cd_,mem_singleton→be_
open List.Pairwise renaming sublist→gp_
open Nat renaming zero_le→di_
open Option renaming bind_some→ab_
open _root_ renaming ByteArray→aa_,if_neg→ac_,if_pos→ae_
namespace Go.Proofs.YthbkdfcmjmmpgaaGreatDoor.Abs
open Go
theorem Bk {m:List bg} {n:Nat} {i:Int} {st:jm} (h : ¬i < (m.length:Int)):df m n i st=(0,0,st):=by
 cases n with
 | zero =>
  unfold df
  rw[ac_ h]
 | succ n =>
  unfold df
  rw[ac_ h]
theorem zG {m:List bg} {n:Nat} {i:Int} {st:jm} (h:i < (m.length:Int)) (hc:(bQ (m.getD i.toNat aX.dflt) i st).1=0):df m (n+1) i st=((df m n (bQ (m.getD i.toNat aX.dflt) i st).2.1 (bQ (m.getD i.toNat aX.dflt) i st).2.2).1,(df m n (bQ (m.getD i.toNat aX.dflt) i st).2.1 (bQ (m.getD i.toNat aX.dflt) i st).2.2).2.1+1,(df m n (bQ (m.getD i.toNat aX.dflt) i st).2.1 (bQ (m.getD i.toNat aX.dflt) i st).2.2).2.2):=by
 conv=>lhs; unfold df
 rw[ae_ h,ae_ hc]
theorem Kd {m:List bg} {n:Nat} {i:Int} {st:jm} (h:i < (m.length:Int)) (hc : ¬(bQ (m.getD i.toNat aX.dflt) i st).1=0):df m (n+1) i st=((bQ (m.getD i.toNat aX.dflt) i st).1,1,(bQ (m.getD i.toNat aX.dflt) i st).2.2):=by
 conv=>lhs; unfold df
 rw[ae_ h,ac_ hc]
structure qM (st st':jm):Prop where
 lk : ∀ a∈st.2.1,a∈st'.2.1
 se : ∀ r∈st.2.2,r∈st'.2.2
 at' : ∀ q,q ∉ st'.2.2→bV q st'.1=bV q st.1
theorem qM.refl (st:jm):qM st st:=⟨fun _ h=>h,fun _ h=>h,fun _ _=>rfl⟩
theorem qM.trans {a b c:jm} (h:qM a b) (k:qM b c):qM a c:=⟨fun x hx=>k.lk x (h.lk x hx),fun x hx=>k.se x (h.se x hx),fun q hq=>(k.at' q hq).trans (h.at' q fun hx=>hq (k.se q hx))⟩
theorem xk (st:jm) (t:aa_):qM st (ct st t):=⟨fun a ha=>(gl _ _ _).2 (.inl ha),fun _ h=>h,fun _ _=>rfl⟩
theorem Gt {st:jm} (hs:aO st.1=true) (q:am) (x:aa_):qM st (cK st q x).2:=by
 unfold cK
 split
 ·exact .refl st
 ·refine⟨fun _ h=>h,fun r hr=>(gl _ _ _).2 (.inl hr),fun p hp => ?_⟩
  have hne:p≠q:=by
   rintro rfl
   exact hp ((gl _ _ _).2 (.inr (by simp)))
  show bV p (ed st.1 q x)=bV p st.1
  rw[pJ (bN hs),ac_ hne]
theorem LW {st:jm} (hs:aO st.1=true) (x:bg) (i:Int):qM st (bQ x i st).2.2:=by
 unfold bQ
 split
 ·exact Gt hs _ _
 ·split
  ·exact(xk st _).trans (Gt (st:=ct st x.2.2.1) hs _ _)
  ·split
   ·exact xk st _
   ·split
    ·exact xk st _
    ·exact xk st _
section
variable {m:List bg} (hm:jt m=true)
include hm
theorem DH : ∀(n:Nat) (i:Int) (st:jm),mS n st→0≤i→qM st (df m n i st).2.2∧aO (df m n i st).2.2.1=true
 | 0,i,st,hI,h0=>by
  unfold df
  split
  ·exact⟨.refl st,hI.sh⟩
  ·exact⟨.refl st,hI.sh⟩
 | n+1,i,st,hI,h0=>by
  by_cases hi:i < (m.length:Int)
  ·obtain⟨q1,q2,q3⟩:=th hm hI h0 hi
   by_cases hc:(bQ (m.getD i.toNat aX.dflt) i st).1=0
   ·obtain⟨k1,k2⟩:=DH n _ _ q1 q2
    rw[zG hi hc]
    exact⟨(LW hI.sh _ _).trans k1,k2⟩
   ·rw[Kd hi hc]
    exact⟨LW hI.sh _ _,q1.sh⟩
  ·rw[Bk hi]
   exact⟨.refl st,hI.sh⟩
end
theorem Zw {s:List ae} {m:List bg} {fuel:Int} (h:qL s m fuel=0):qM (s,[],[]) (gN s m fuel).2.2∧aO (gN s m fuel).2.2.1=true:=by
 obtain⟨hs,hm,hf0,hf1⟩:=vZ h
 exact DH hm fuel.toNat 0 (s,[],[]) (mS.first hs (by omega)) (co_ _)
theorem Ke (s:List ae) : ∀(n k:Nat) (F:List ak),∃ ex,jX s n k F=F++ex
 | 0,k,F=>⟨[],by simp[jX]⟩
 | n+1,k,F=>by
  unfold jX
  cases F[k]? with
  | none=>exact⟨[],by simp⟩
  | some a =>
   obtain⟨e1,h1⟩:=kn (gn s a) F
   obtain⟨e2,h2⟩:=Ke s n (k+1) (aD F (gn s a))
   exact⟨e1++e2,by
    dsimp only
    rw[h2,h1]
    simp⟩
theorem IM {s:List ae} {ar:List ak} : ∀(n k:Nat) (F:List ak),l4 s ar F→(fL s ar).length≤k+n→(∀ j,j < k → ∀ a,F[j]? = some a → ∀ x∈gn s a,x∈F) → ∀ a∈jX s n k F,∀ x∈gn s a,x∈jX s n k F
 | 0,k,F,hI,hn,hc=>by
  have hl:=hI.len
  intro a ha x hx
  obtain⟨j,hj,e⟩:=dk_ ha
  have hj:j < F.length:=hj
  exact hc j (by omega) a (by rw[as_ hj]; exact congrArg some e) x hx
 | n+1,k,F,hI,hn,hc=>by
  have hl:=hI.len
  unfold jX
  cases hk:F[k]? with
  | none =>
   have hkl:=List.getElem?_eq_none_iff.1 hk
   intro a ha x hx
   dsimp only at ha ⊢
   obtain⟨j,hj,e⟩:=dk_ ha
   exact hc j (by omega) a (by rw[as_ hj]; exact congrArg some e) x hx
  | some a =>
   dsimp only
   obtain⟨ex,hex⟩:=kn (gn s a) F
   refine IM n (k+1) (aD F (gn s a)) (hI.add fun x hx=>Bi hx) (by omega) fun j hj b hb x hx => ?_
   have hkl:=(List.getElem?_eq_some_iff.1 hk).1
   rw[hex,List.getElem?_append_left (by omega)] at hb
   rw[gl]
   by_cases e:j=k
   ·subst e
    rw[hk] at hb
    cases hb
    exact .inr hx
   ·exact .inl (hc j (by omega) b hb x hx)
theorem P9 (s:List ae) (ar:List ak):(∀ a∈ar,a∈eB s ar) ∧ ∀ a∈eB s ar,∀ x∈gn s a,x∈eB s ar:=by
 refine⟨fun a ha => ?_,IM _ 0 _ (l4.first s ar) (by omega) fun j hj=>by omega⟩
 obtain⟨ex,e⟩:=Ke s (fL s ar).length 0 (aD [] ar)
 unfold eB
 rw[e]
 exact cq_ _ ((IG _ _).2 ha)
section
variable {s t:List ae} (hs:aO s=true) (ht:aO t=true) {q:am} (hag : ∀ r,r≠q→bV r s=bV r t)
include hs ht hag
theorem Qa {p:am→Bool} (hp:p q=false):(s.filter fun c=>p c.1)=t.filter fun c=>p c.1:=by
 have pw : ∀ u:List ae,aO u=true→(u.filter fun c=>p c.1).Pairwise fun a b=>cl a.1 b.1=true:=fun u hu=>gp_ List.filter_sublist (bN hu)
 refine IA (lt:=fun a b:ae=>cl a.1 b.1) (fun x=>mP _) (fun x y z h k=>iI h k) (pw s hs) (pw t ht) fun c => ?_
 rw[dm_,dm_]
 have key : ∀(u v:List ae),aO u=true→aO v=true→(∀ r,r≠q→bV r u=bV r v)→c∈u∧p c.1=true→c∈v∧p c.1=true:=by
  rintro u v hu hv h ⟨h1,h2⟩
  have hne:c.1≠q:=by
   intro e
   rw[e,hp] at h2
   cases h2
  have e:=pI (bN hu) h1
  have hn:=IC hu c h1
  rw[h _ hne] at e
  rcases A9 (q:=c.1) (bN hv) with⟨d,hd,e1,e2⟩ | ⟨_,e1⟩
  ·have:d=c:=Prod.ext e1 (Prod.ext (e2.trans e) rfl)
   exact⟨this ▸ hd,h2⟩
  ·exact absurd (e.symm.trans e1) hn
 exact⟨key s t hs ht hag,key t s ht hs fun r hr=>(hag r hr).symm⟩
theorem LX : ∀(n k:Nat) (F:List ak),(∀ a∈jX s n k F,cB a q=false)→jX t n k F=jX s n k F
 | 0,k,F,_=>rfl
 | n+1,k,F,h=>by
  unfold jX at h ⊢
  cases hk:F[k]? with
  | none=>rfl
  | some a =>
   rw[hk] at h
   dsimp only at h ⊢
   have ha:cB a q=false:=by
    obtain⟨e1,h1⟩:=kn (gn s a) F
    obtain⟨e2,h2⟩:=Ke s n (k+1) (aD F (gn s a))
    refine h a ?_
    rw[h2,h1]
    exact cq_ _ (cq_ _ (cd_ hk))
   have e:gn t a=gn s a:=by
    unfold gn
    rw[Qa hs ht hag (p:=fun r=>cB a r) ha]
   rw[e]
   exact LX n (k+1) _ h
theorem Rc {ar:List ak} (h : ∀ a∈eB s ar,cB a q=false):eB t ar=eB s ar:=by
 have stable : ∀(u:List ae) (n k:Nat) (F:List ak),l4 u ar F→(fL u ar).length≤k+n → ∀ n',n≤n'→jX u n' k F=jX u n k F:=by
  intro u n
  induction n with
  | zero =>
   intro k F hI hn n' _
   have hl:=hI.len
   cases n' with
   | zero=>rfl
   | succ n' =>
    unfold jX
    rw[List.getElem?_eq_none (by omega)]
  | succ n ih =>
   intro k F hI hn n' hn'
   obtain⟨p,rfl⟩ : ∃ p,n'=p+1:=⟨n' - 1,by omega⟩
   unfold jX
   cases F[k]? with
   | none=>rfl
   | some a=>exact ih (k+1) _ (hI.add fun x hx=>Bi hx) (by omega) p (by omega)
 have h1:=stable t (fL t ar).length 0 (aD [] ar) (l4.first t ar) (by omega) ((fL t ar).length+(fL s ar).length) (by omega)
 have h2:=stable s (fL s ar).length 0 (aD [] ar) (l4.first s ar) (by omega) ((fL t ar).length+(fL s ar).length) (by omega)
 have h3:=LX hs ht hag ((fL t ar).length+(fL s ar).length) 0 (aD [] ar) (by rw[h2]; exact h)
 unfold eB
 rw[←h1,h3,h2]
theorem Xz {x:aa_} (hx:jl x=true) (h : ∀ a∈eB s (eR ((⟨#[61]⟩:aa_)++x)),cB a q=false):fM t x=fM s x:=by
 obtain⟨f,h1,h2,h3,h4⟩:=uC hx
 have har:eR ((⟨#[61]⟩:aa_)++x)=bZ f:=by
  unfold eR
  rw[h1]
  rfl
 rw[har] at h
 obtain⟨c1,c2⟩:=P9 s (bZ f)
 have hne : ∀ a∈eB s (bZ f),∀ r,cB a r=true→r≠q:=by
  intro a ha r hr e
  rw[e,h a ha] at hr
  cases hr
 have hmv:=U7 hs ht (U:=fun i=>i < s.length ∧ ∃ a∈eB s (bZ f),cB a (aN s i)=true) (fun i hi=>hi.1) (fun i hi k hk=>by
  obtain⟨h5,a,ha,hai⟩:=hi
  obtain⟨k1,k2⟩:=jI.1 hk
  obtain⟨b,hb,hbk⟩:=ds_.1 k2
  refine⟨k1,b,c2 a ha b ?_,hbk⟩
  unfold gn
  exact eo_.2 ⟨s.getD i av.dflt,dm_.2 ⟨km h5,hai⟩,hb⟩) (fun i hi=>by
  obtain⟨h5,a,ha,hai⟩:=hi
  exact hag _ (hne a ha _ hai)) (fun i hi r hr=>by
  obtain⟨h5,a,ha,hai⟩:=hi
  obtain⟨b,hb,hbr⟩:=ds_.1 hr
  refine hag _ (hne b (c2 a ha b ?_) _ hbr)
  unfold gn
  exact eo_.2 ⟨s.getD i av.dflt,dm_.2 ⟨km h5,hai⟩,hb⟩)
 unfold fM
 rw[h2]
 refine(xh h3 (LV hs ht (fun r hr => ?_) fun k hk => ?_)).symm
 ·obtain⟨a,ha,har⟩:=ds_.1 hr
  exact hag _ (hne a (c1 a ha) _ har)
 ·obtain⟨k1,k2⟩:=jI.1 hk
  obtain⟨a,ha,hak⟩:=ds_.1 k2
  exact hmv k ⟨k1,a,c1 a ha,hak⟩
end
structure xV (q:am) (B:List am) (st st':jm):Prop where
 lk:st'.2.1=st.2.1
 se:st'.2.2=st.2.2
 ok:aO st'.1=true
 off : ∀ r,r≠q→bV r st.1=bV r st'.1
 on:q∈st.2.2→bV q st.1=bV q st'.1
 few : ∀ c∈st'.1,c.1∈B
theorem aa3 {s:List ae} (h:iw s) {B:List am} (hB : ∀ c∈s,c.1∈B):s.length≤B.length:=by
 have h1:(s.map (·.1)).Nodup:=by
  refine List.pairwise_map.2 (List.Pairwise.imp (fun hab => ?_) h)
  exact rM hab
 have:=tg (s.map (·.1)) B h1 fun r hr=>by
  obtain⟨c,hc,rfl⟩:=List.mem_map.1 hr
  exact hB c hc
 rw[List.length_map] at this
 exact this
section
variable {q:am} {B:List am} (hb:B.length≤110)
include hb
theorem ST {st st':jm} (hs:aO st.1=true) (h:xV q B st st') {p:am} {x:aa_} (hpB:p∈B) (hp:bM p=true) (hx:x≠eS→eA x=true) (hc:(cK st p x).1=0):(cK st' p x).1=0∧xV q B (cK st p x).2 (cK st' p x).2:=by
 have hse:=h.se
 have hmem : ∀ c∈ed st'.1 p x,c.1∈B:=by
  intro c hc
  rcases rO.1 hc with⟨h1,_⟩ | ⟨_,rfl⟩
  ·exact h.few c h1
  ·exact hpB
 have hl:=aa3 (JW (r:=p) (x:=x) (bN h.ok)) hmem
 have e':cK st' p x=(0,ed st'.1 p x,st'.2.1,aD st'.2.2 [p]):=by
  unfold cK
  rw[ac_ (by omega)]
 have e:cK st p x=(0,ed st.1 p x,st.2.1,aD st.2.2 [p]):=by
  unfold cK at hc ⊢
  split at hc
  ·cases hc
  ·rename_i k
   rw[ac_ k]
 rw[e,e']
 refine⟨rfl,h.lk,by show aD st'.2.2 [p]=_; rw[hse],xR h.ok hp hx (by omega),fun r hr => ?_,fun hq => ?_,hmem⟩
 ·show bV r (ed st.1 p x)=bV r (ed st'.1 p x)
  rw[pJ (bN hs),pJ (bN h.ok),h.off r hr]
 ·show bV q (ed st.1 p x)=bV q (ed st'.1 p x)
  rw[pJ (bN hs),pJ (bN h.ok)]
  by_cases eq:q=p
  ·rw[ae_ eq,ae_ eq]
  ·rw[ac_ eq,ac_ eq]
   rcases(gl _ _ _).1 hq with k | k
   ·exact h.on k
   ·exact absurd (be_.1 k) eq
theorem Bl {st st':jm} (hs:aO st.1=true) (h:xV q B st st') {x:aa_} (hl : ∀ a∈(ct st x).2.1,cB a q=false):xV q B (ct st x) (ct st' x):=by
 have hl2 : ∀ a∈eB st.1 (eR ((⟨#[61]⟩:aa_)++x)),cB a q=false:=fun a ha=>hl a ((gl _ _ _).2 (.inr ha))
 refine⟨?_,h.se,h.ok,h.off,h.on,h.few⟩
 show aD st'.2.1 (eB st'.1 _)=aD st.2.1 (eB st.1 _)
 rw[h.lk,Rc hs h.ok h.off hl2]
theorem IP {st st':jm} (hs:aO st.1=true) (h:xV q B st st') {x:aa_} (hx:jl x=true) (hl : ∀ a∈(ct st x).2.1,cB a q=false):fM st'.1 x=fM st.1 x:=Xz hs h.ok h.off hx fun a ha=>hl a ((gl _ _ _).2 (.inr ha))
variable {m:List bg} (hm:jt m=true) (hB : ∀ x∈m,x.2.1∈B)
include hm hB
theorem Zx {st st':jm} {n:Nat} (hI:mS (n+1) st) (h:xV q B st st') {i:Int} (h0:0≤i) (h1:i < (m.length:Int)) (hc:(bQ (m.getD i.toNat aX.dflt) i st).1=0) (hl : ∀ a∈(bQ (m.getD i.toNat aX.dflt) i st).2.2.2.1,cB a q=false) :
  (bQ (m.getD i.toNat aX.dflt) i st').1=0∧(bQ (m.getD i.toNat aX.dflt) i st').2.1=(bQ (m.getD i.toNat aX.dflt) i st).2.1∧xV q B (bQ (m.getD i.toNat aX.dflt) i st).2.2 (bQ (m.getD i.toNat aX.dflt) i st').2.2:=by
 obtain⟨x,hx,hxd,hst⟩:=MR hm hI h0 h1
 have hxm:x∈m:=cd_ hx
 have hs:=hI.sh
 rw[hxd] at hc hl ⊢
 unfold nV at hst
 unfold bQ at hc hl ⊢
 by_cases k2:x.1=2
 ·rw[ac_ (by omega),ae_ k2,ag_,ag_] at hst
  rw[ae_ k2] at hc hl
  rw[ae_ k2,ae_ k2]
  obtain⟨r1,r2⟩:=ST hb hs h (hB x hxm) hst.1.1 (fun hne=>by
   have:=hst.1.2
   unfold JX at this
   rw[decide_eq_false hne,Bool.false_or] at this
   exact this) hc
  exact⟨r1,rfl,r2⟩
 ·rw[ac_ k2] at hc hl
  rw[ac_ k2,ac_ k2]
  by_cases k1:x.1=1
  ·rw[ae_ k1,ag_,ag_] at hst
   rw[ae_ k1] at hc hl
   rw[ae_ k1,ae_ k1]
   have hlk : ∀ a∈(ct st x.2.2.1).2.1,cB a q=false:=fun a ha=>hl a ((Gt (st:=ct st x.2.2.1) hs _ _).lk a ha)
   rw[IP hb hs h hst.1.2 hlk]
   obtain⟨r1,r2⟩:=ST hb (st:=ct st x.2.2.1) (st':=ct st' x.2.2.1) hs (Bl hb hs h hlk) (hB x hxm) hst.1.1 (fun _=>P6 hm hI h0 h1 hs hst.1.2) hc
   exact⟨r1,rfl,r2⟩
  ·rw[ac_ k1,ac_ k2] at hst
   rw[ac_ k1] at hc hl
   rw[ac_ k1,ac_ k1]
   by_cases k3:x.1=3
   ·rw[ae_ k3,ag_,ag_] at hst
    rw[ae_ k3] at hc hl
    rw[ae_ k3,ae_ k3,IP hb hs h hst.1.2 hl]
    exact⟨rfl,rfl,Bl hb hs h hl⟩
   ·rw[ac_ k3] at hst
    rw[ac_ k3] at hc hl
    rw[ac_ k3,ac_ k3]
    by_cases k4:x.1=4
    ·rw[ae_ k4,ag_,ag_] at hst
     rw[ae_ k4] at hc hl
     rw[ae_ k4,ae_ k4,IP hb hs h hst.1.2 hl]
     exact⟨rfl,rfl,Bl hb hs h hl⟩
    ·rw[ac_ k4] at hst
     rw[ac_ k4] at hc hl
     rw[ac_ k4,ac_ k4]
     by_cases k5:x.1=5
     ·rw[ae_ k5,ag_,ag_] at hst
      rw[IP hb hs h hst.1.2 hl]
      exact⟨hc,rfl,Bl hb hs h hl⟩
     ·rw[ac_ k5] at hst
      cases hst
theorem SU : ∀(n:Nat) (i:Int) (st st':jm),mS n st→xV q B st st'→0≤i→(df m n i st).1=0→(∀ a∈(df m n i st).2.2.2.1,cB a q=false) →
  (df m n i st').1=0∧(df m n i st').2.1=(df m n i st).2.1∧xV q B (df m n i st).2.2 (df m n i st').2.2
 | n,i,st,st',hI,h,h0,hc,hl=>by
  by_cases hi:i < (m.length:Int)
  ·cases n with
   | zero =>
    unfold df at hc
    rw[ae_ hi] at hc
    cases hc
   | succ n =>
    obtain⟨q1,q2,q3⟩:=th hm hI h0 hi
    by_cases hs:(bQ (m.getD i.toNat aX.dflt) i st).1=0
    ·rw[zG hi hs] at hc hl
     obtain⟨k1,_⟩:=DH hm n _ _ q1 q2
     obtain⟨r1,r2,r3⟩:=Zx hb hm hB hI h h0 hi hs fun a ha=>hl a (k1.lk a ha)
     obtain⟨s1,s2,s3⟩:=SU n _ _ _ q1 r3 q2 hc hl
     rw[zG hi hs,zG hi r1,r2]
     exact⟨s1,by show _+1=_+1; rw[s2],s3⟩
    ·rw[Kd hi hs] at hc
     exact absurd hc hs
  ·rw[Bk hi,Bk hi]
   exact⟨rfl,rfl,h⟩
end
section
variable {ls:List (List ae)} (hls:ls.length≤10)
include hls
end
section
variable {a b:List ae} (ha:a.length≤2000000) (hb:b.length≤2000000)
include ha hb
end
section
variable {a b:List ae} (ha:a.length≤2000000) (hb:b.length≤2000000) (hsa : ∀ c∈a,c.2.1.size≤9223372036854775807) (hsb : ∀ c∈b,c.2.1.size≤9223372036854775807)
include ha hb hsa hsb
end
section
variable {o x y:List ae} (ho:o.length≤2000000) (hx:x.length≤2000000) (hy:y.length≤2000000)
include ho hx hy
end
section
variable {o x y:List ae} (ho:o.length≤2000000) (hx:x.length≤2000000) (hy:y.length≤2000000) (hso : ∀ c∈o,c.2.1.size≤9223372036854775807) (hsx : ∀ c∈x,c.2.1.size≤9223372036854775807) (hsy : ∀ c∈y,c.2.1.size≤9223372036854775807)
include ho hx hy hso hsx hsy
end
section
variable {c:List Int} (hc:Ir c)
include hc
theorem Qb {i:Int} (h2:0≤i) (h3:i≤(c.length:Int)):Ok (fun z=>(0≤z.1.1∧z.1.1≤255)∧Rd c z.2.1) (tO c i):=by
 have:=uv hc (s:=(c,i,())) ⟨rfl,h2,h3⟩
 rw[yM] at this
 rw[L4]
 exact this
theorem LY {n i:Int} (h2:0≤i) (h3:i≤(c.length:Int)) (hn:1≤n):Ok (fun z=>(0≤z.1.1∧z.1.1 < n)∧Rd c z.2.1) (xy n c i):=by
 rw[Jo]
 refine Ok.ite (fun _=>Ok.one ⟨⟨co_ _,by show(0:Int) < n; omega⟩,rfl,h2,h3⟩) fun _=>Ok.ite (fun _ => ?_) fun _ => ?_
 ·refine Ok.bnd (Qb hc h2 h3) fun z hz=>Ok.nz (by omega) (Ok.one ⟨⟨Int.tmod_nonneg _ hz.1.1,ha_ _ (by omega)⟩,hz.2⟩)
 ·refine Ok.bnd (Qb hc h2 h3) fun z hz=>Ok.bnd (uv hc hz.2) fun y hy => ?_
  have h1:=hz.1
  have h2:=hy.1
  rw[wr (n:=z.1.1*256) (by omega) (by omega),wr (by omega) (by omega)]
  exact Ok.nz (by omega) (Ok.one ⟨⟨Int.tmod_nonneg _ (by omega),ha_ _ (by omega)⟩,hy.2⟩)
theorem XA {n:Nat} {i:Int} (hn:n≤900) (h2:0≤i) (h3:i≤(c.length:Int)):Ok (fun z=>Ff z.1.1∧Rd c z.2.1) (lM (n:Int) c i):=by
 rw[yN,wr (by omega) (by omega)]
 refine Ok.bnd (LY hc h2 h3 (by omega)) fun z hz => ?_
 rw[show z.1.1=(z.1.1.toNat:Int) by omega]
 exact Dz hc _ (by omega) hz.2 ⟨di_ _,fun c hc=>by cases hc⟩
theorem Zy {β:Type} {Q:β→Prop} {f:(List ae×Unit)×aI×Unit→Option β} (k : ∀ z,Ff z.1.1→Rd c z.2.1→Ok Q (f z)):Ok Q ((DV c).bind fun z1=>(lM 8 z1.1.1.1 z1.1.1.2.1).bind f):=by
 rw[Hu,ab_]
 exact Ok.bnd (XA hc (n:=8) (by decide) (co_ _) (by show(0:Int)≤(c.length:Int); omega)) fun z hz=>k z hz.1 hz.2
end
def v6 (m:List bg):Prop:=m.length≤30 ∧ ∀ x∈m,x.2.2.1.size≤6410
theorem v6.sz {m:List bg} (h:v6 m) : ∀ x∈m,x.2.2.1.size≤1000000000:=fun x hx=>Nat.le_trans (h.2 x hx) (by decide)
theorem acH {t:aa_} (ht:t.size≤1000000) (h:(dk ((⟨#[61]⟩:aa_)++t)).2=true):1≤(dk ((⟨#[61]⟩:aa_)++t)).1.size:=by
 have hb:=ux (w:=61 :: lb t) (by rw[aj_,iR]; omega)
 rw[←aca] at hb
 have h4:(fy (61 :: lb t)).2=true:=by
  rw[hb] at h
  exact h
 rw[hb]
 show 1≤(ba (fy (61 :: lb t)).1).size
 rw[aK]
 have hp:((61 :: lb t).all kt && decide ((61 :: lb t).length≤200))=true:=by
  cases hp:((61 :: lb t).all kt && decide ((61 :: lb t).length≤200)) with
  | true=>rfl
  | false =>
   have e:fy (61 :: lb t)=([],false):=by
    unfold fy
    rw[ac_ (by simp),hp,ae_ rfl]
   rw[e] at h4
   cases h4
 have e:=uy (by simp) hp
 rw[ae_ (by rfl)] at e
 dsimp only at e
 split at e
 ·rw[e]
  simp
 ·rw[e] at h4
  cases h4
section
variable {c:List Int} (hc:Ir c)
include hc
theorem acI {β:Type} {Q:β→Prop} {x:aa_} {f:((aa_×(Bool×Unit))×Unit)→Option β} (hx:x.size≤6410) (k : ∀ z,z.1.1.size≤200→Ok Q (f z)):Ok Q ((d7 x).bind f) :=
 Ok.bnd (P:=fun z=>z.1.1.size≤200) ⟨_,(kO (x:=x) (by omega)).2.1,(kO (x:=x) (by omega)).2.2⟩ k
theorem aa4 {n:Nat} (hn:n≤3) {s:aI} (h:Rd c s):Ok (fun z=>z.1.1.size≤6410∧Rd c z.2.1) (eU (n:Int) s):=by
 rw[Mh]
 refine Ze hc n rfl hn h fun z hz hr => ?_
 have h1:(⟨#[61]⟩:aa_).size=1:=rfl
 have hsz:((⟨#[61]⟩:aa_)++z.1.1).size≤9223372036854775807:=by rw[fo_,h1]; omega
 have hinp:=kO hsz
 rw[gj (by rw[h1]; omega),hinp.2.1,ab_]
 dsimp only
 cases hb:(dk ((⟨#[61]⟩:aa_)++z.1.1)).2 with
 | false=>exact Ok.one ⟨by show(1:Nat)≤6410; decide,hr⟩
 | true =>
  have h61:=acH (by omega) hb
  have h200:=hinp.2.2
  rw[ac_ (by decide),V0 (by decide) (by omega)]
  refine Ok.one ⟨?_,hr⟩
  show(ByteArray.extract _ _ _).size≤6410
  rw[ByteArray.size_extract]
  omega
theorem acf {β:Type} {Q:β→Prop} {s:aI} {f:(aa_×Unit)×aI×Unit→Option β} (h:Rd c s) (k : ∀ z,z.1.1.size≤6410→Rd c z.2.1→Ok Q (f z)):Ok Q ((eU 1 s).bind f):=Ok.bnd (aa4 hc (n:=1) (by decide) h) fun z hz=>k z hz.1 hz.2
set_option maxHeartbeats 4000000 in
theorem aa5 {s:aI} (h:Rd c s):Ok (fun z=>z.1.1.2.2.1.size≤6410∧Rd c z.2.1) (lc s):=by
 rw[Mi]
 repeat' first
  | refine rH hc (by assumption) (by decide) fun _ _ _ _ => ?_
  | refine sx hc (by assumption) fun _ _ _ => ?_
  | refine acf hc (by assumption) fun _ _ _ => ?_
  | refine rP hc (by assumption) fun _ _ _ => ?_
  | refine acI hc (by omega) fun _ _ => ?_
  | refine It (by omega) (by omega) fun _ _ => ?_
  | (refine Ok.cats (by simp only[Sp]; omega) ?_; try dsimp only)
  | refine Ok.ite (fun _ => ?_) fun _ => ?_
  | refine Ok.one ⟨?_,by assumption⟩
 all_goals (try dsimp only)
 all_goals (try simp only[size_append,Sp,WW])
 all_goals omega
theorem XB {β:Type} {Q:β→Prop} {s:aI} {f:(bg×Unit)×aI×Unit→Option β} (h:Rd c s) (k : ∀ z,z.1.1.2.2.1.size≤6410→Rd c z.2.1→Ok Q (f z)):Ok Q ((lc s).bind f):=Ok.bnd (aa5 hc h) fun z hz=>k z hz.1 hz.2
theorem Z0 {β:Type} {Q:β→Prop} {m:List bg} {f:((Bool×Unit)×Unit)→Option β} (hm:v6 m) (k:Ok Q (f ((jt m,()),()))):Ok Q ((j8 m).bind f):=by
 have h:=hm.1
 rw[Fj (by omega) hm.sz]
 exact k
theorem v6.snoc {m:List bg} {x:bg} (h:v6 m) (hl:m.length≤29) (hx:x.2.2.1.size≤6410):v6 (m++[x]):=⟨by rw[af_,ad_]; omega,fun y hy=>by
 rcases bo_.1 hy with hy | hy
 ·exact h.2 y hy
 ·rw[be_.1 hy]
  exact hx⟩
theorem LZ {m:List bg} (hm:v6 m) (hl:m.length≤20) {s:aI} (h:Rd c s):Ok (fun z=>v6 z.1.1∧Rd c z.2.1) ((j8 m).bind fun z3=>(if(!z3.1.1)=true then((b8 20 s).bind fun z4=>(if(!z4.1.1)=true then((bI z4.2.1).bind fun z5=>((bI z5.2.1).bind fun z6=>(app m ([(1,z5.1.1,(⟨#[49]⟩:aa_),0,()),(1,z6.1.1,(⟨#[65,49,43,66,50]⟩:aa_),0,())]:(List bg)) 48 fun y3=>(some ((y3,()),(z6.2.1,())))))) else(some ((m,()),(z4.2.1,()))))) else(some ((m,()),(s,()))))):=by
 refine Z0 hc hm (Ok.ite (fun _ => ?_) fun _=>Ok.one ⟨hm,h⟩)
 refine s6 hc h (by decide) fun z4 r4=>Ok.ite (fun _ => ?_) fun _=>Ok.one ⟨hm,r4⟩
 refine sx hc r4 fun z5 _ r5=>sx hc r5 fun z6 _ r6=>Ok.app (by simp only[aj_,bl_]; omega) (Ok.one ⟨?_,r6⟩)
 have:=((hm.snoc hc (x:=(1,z5.1.1,(⟨#[49]⟩:aa_),0,())) (by omega) (by show(1:Nat)≤6410; decide)).snoc hc (x:=(1,z6.1.1,(⟨#[65,49,43,66,50]⟩:aa_),0,())) (by rw[af_,ad_]; omega) (by show(5:Nat)≤6410; decide))
 rw[List.append_assoc] at this
 exact this
theorem ui : ∀(n:Nat) {s:aI} {m:List bg},v6 m→n+m.length≤20→Rd c s→Ok (fun z=>v6 z.1.1∧Rd c z.2.1) (ey (n:Int) s m)∧Ok (fun z=>v6 z.1.1∧Rd c z.2.1) (jR (n:Int) s m)
 | 0,s,m,hm,hl,h=>by
  rw[tJ,sU,aE (by decide)]
  exact⟨LZ hc hm (by omega) h,LZ hc hm (by omega) h⟩
 | n+1,s,m,hm,hl,h=>by
  have hw:IntKind.i64.wrap (((n+1:Nat):Int) - 1)=(n:Int):=by rw[wr (by omega) (by omega)]; omega
  have main:Ok (fun z=>v6 z.1.1∧Rd c z.2.1) (app ([]:(List bg)) m 48 fun y1=>((lc s).bind fun z1=>(app y1 ([z1.1.1]:(List bg)) 48 fun y2=>((j8 y2).bind fun z2=>(if z2.1.1=true then(ey (he_ hf_ (((n+1:Nat):Int) - 1)) z1.2.1 y2) else(inb y2 (he_ hf_ ((am_ y2:Int) - 1)) (if((List.getD y2 (Int.toNat (he_ hf_ ((am_ y2:Int) - 1))) (aX.dflt)).1 == 3)=true then(ey (he_ hf_ (((n+1:Nat):Int) - 1)) z1.2.1 y2) else(jR (he_ hf_ (((n+1:Nat):Int) - 1)) z1.2.1 m)))))))):=by
   rw[bi (by simp only[bl_]; omega),List.nil_append]
   refine XB hc h fun z1 s1 r1=>Ok.app (by simp only[ad_]; omega) ?_
   have hm2:=hm.snoc hc (x:=z1.1.1) (by omega) s1
   have hl2:n+(m++[z1.1.1]).length≤20:=by rw[af_,ad_]; omega
   rw[hw]
   refine Z0 hc hm2 (Ok.ite (fun _=>(ui n hm2 hl2 r1).1) fun _ => ?_)
   have hw2:IntKind.i64.wrap (((m++[z1.1.1]).length:Int) - 1)=(m.length:Int):=by
    rw[wr (by omega) (by omega),af_,ad_]
    omega
   rw[hw2]
   refine Ok.inb ⟨by omega,by rw[af_,ad_]; omega⟩ (Ok.ite (fun _=>(ui n hm2 hl2 r1).1) fun _=>(ui n hm (by omega) r1).2)
  rw[tJ,sU,aJ (by omega)]
  exact⟨main,main⟩
theorem Zz {s:aI} (h:Rd c s):Ok (fun z=>v6 z.1.1∧Rd c z.2.1) (sn s):=by
 rw[Js]
 refine s6 hc h (by decide) fun z1 r1=>Ok.ite (fun _ => ?_) fun _ => ?_
 ·refine rH hc r1 (by decide) fun z2 h0 h1 r2=>It (by omega) (by omega) fun z3 s3=>Ok.cats (by simp only[Sp]; omega) (XB hc r2 fun z4 s4 r4=>Ok.one ⟨⟨by show(4:Nat)≤30; decide,fun x hx => ?_⟩,r4⟩)
  simp only[List.mem_cons,List.not_mem_nil,or_false] at hx
  rcases hx with rfl | rfl | rfl | rfl
  ·show(5 - 1:Nat)≤6410
   decide
  ·show(5:Nat)≤6410
   decide
  ·show((⟨#[65,49,60]⟩:aa_)++z3.1.1).size≤6410
   rw[fo_,Sp]
   omega
  ·exact s4
 ·refine rH hc r1 (by decide) fun z5 h0 h1 r5 => ?_
  rw[show z5.1.1=(z5.1.1.toNat:Int) by omega]
  exact(ui hc _ ⟨di_ _,fun x hx=>by cases hx⟩ (by simp only[bl_]; omega) r5).1
theorem aa6 {β:Type} {Q:β→Prop} {s:aI} {f:(List bg×Unit)×aI×Unit→Option β} (h:Rd c s) (k : ∀ z,v6 z.1.1→Rd c z.2.1→Ok Q (f z)):Ok Q ((sn s).bind f):=Ok.bnd (Zz hc h) fun z hz=>k z hz.1 hz.2
theorem aa7 {s:aI} (h:Rd c s):Ok (fun z=>Rd c z.2.1) (Am s):=by
 rw[Mj]
 refine s6 hc h (by decide) fun z1 r1=>Ok.ite (fun _ => ?_) fun _ => ?_
 ·exact Ok.bnd (Pw hc r1 (by decide)) fun z hz=>Ok.one hz
 ·exact rH hc r1 (by decide) fun z h0 h1 r=>Ok.one r
theorem DI : ∀(n:Nat) {s:aI} {out:List ae},n≤1000→Rd c s→Gk out→Ok (fun z=>Ff z.1.1∧Rd c z.2.1∧z.1.1.length≤out.length+n+1) (iP (n:Int) s out)
 | 0,s,out,_,h,ho=>by
  rw[kA,aE (by decide)]
  refine s6 hc h (by decide) fun z hz=>Ok.ite (fun _ => ?_) fun _=>Ok.one ⟨ho.up,hz,by show out.length≤_; omega⟩
  refine sx hc hz fun y _ hy=>rP hc hy fun x hx hz' => ?_
  have hl:=ho.1
  refine Ok.app (by simp only[ad_]; omega) (Ok.one ⟨⟨by simp only[af_,ad_]; omega,fun d hd => ?_⟩,hz',by simp only[af_,ad_]; omega⟩)
  rcases bo_.1 hd with hd | hd
  ·exact ho.2 d hd
  ·rw[be_.1 hd]
   exact hx
 | n+1,s,out,hn,h,ho=>by
  have hw:IntKind.i64.wrap (((n+1:Nat):Int) - 1)=(n:Int):=by rw[wr (by omega) (by omega)]; omega
  have hl:=ho.1
  rw[kA,aJ (by omega),hw]
  refine sx hc h fun y _ hy=>rP hc hy fun x hx hz => ?_
  have hen:(jw out y.1.1 x.1.1).1.length≤out.length+1:=by
   unfold jw
   split
   ·exact SB _ _ _
   ·exact di_ _
  have hsm:=LI (s:=out) (r:=y.1.1) (x:=x.1.1) ho.2
  rw[LH (by omega) (ho.up).sz (by omega),ab_]
  refine Ok.ite (fun _ => ?_) fun _ => ?_
  ·exact Ok.mono (DI n (by omega) hz hsm) fun a ha=>⟨ha.1,ha.2.1,by
    have:=ha.2.2
    dsimp only at this
    omega⟩
  ·exact Ok.mono (DI n (by omega) hz ho) fun a ha=>⟨ha.1,ha.2.1,by
    have:=ha.2.2
    omega⟩
theorem XC {n:Nat} {i:Int} (hn:n≤900) (h2:0≤i) (h3:i≤(c.length:Int)):Ok (fun z=>Ff z.1.1∧Rd c z.2.1∧z.1.1.length≤n+1) (lM (n:Int) c i):=by
 rw[yN,wr (by omega) (by omega)]
 refine Ok.bnd (LY hc h2 h3 (by omega)) fun z hz => ?_
 have h4:=hz.1
 rw[show z.1.1=(z.1.1.toNat:Int) by omega]
 exact Ok.mono (DI hc _ (by omega) hz.2 ⟨di_ _,fun c hc=>by cases hc⟩) fun a ha=>⟨ha.1,ha.2.1,by
  have:=ha.2.2
  rw[bl_] at this
  omega⟩
theorem Gu:Ok (fun z=>(Ff z.1.1∧z.1.1.length≤7)∧v6 z.1.2.1) (tq c):=by
 rw[FR,Hu,ab_]
 refine Ok.bnd (XC hc (n:=6) (by decide) (co_ _) (by show(0:Int)≤(c.length:Int); omega)) fun z2 h2=>aa6 hc h2.2.1 fun z3 h3 r3=>Ok.bnd (aa7 hc r3) fun z4 h4=>Ok.one ⟨⟨h2.1,h2.2.2⟩,h3⟩
end
end Go.Proofs.YthbkdfcmjmmpgaaGreatDoor.Abs
