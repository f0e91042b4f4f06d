/- Plain laws: sheets behind the opening or the closing of rows, behind a copy, behind an area cleared. -/
import Derived.Test.YtddiiceaindlhaaGreatDoorZP5
import Derived.Test.YtddiiceaindlhaaGreatDoorZP4
import Derived.Test.YtddiiceaindlhaaGreatDoorZP6
set_option linter.unusedVariables false
set_option linter.unusedSimpArgs false
set_option linter.unusedSectionVars false
namespace Go.Proofs.YtddiiceaindlhaaGreatDoor.Abs
open Go
def gn (row many:Int) (closed:Bool) (q:ai):ai:=(q.1,fq row many closed 0 q.2.1,())
def d8 (row many:Int) (closed:Bool) (q:ai):Bool:=closed && (decide (row≤q.2.1) && decide (q.2.1 < row+many))
noncomputable def cx (row many:Int) (closed:Bool):List ab→Option (List ab)
 | []=>some []
 | c :: l=>if d8 row many closed c.1=true then cx row many closed l else match qZ (fD row many closed) c.2.1 with
  | none=>none
  | some y=>if ao (gn row many closed c.1)=true then(cx row many closed l).map fun r=>(gn row many closed c.1,y,()) :: r else none
theorem NG {row many:Int} {closed:Bool} {a b:ai} (hm:0≤many) (ha:d8 row many closed a=false) (hb:d8 row many closed b=false) (h:bw a b=true):bw (gn row many closed a) (gn row many closed b)=true:=by
 rw[jo] at h ⊢
 unfold gn fq
 dsimp only
 unfold d8 at ha hb
 cases closed with
 | false =>
  simp only[if_true]
  split <;> split <;> omega
 | true =>
  simp only[Bool.true_and,Bool.and_eq_false_iff,decide_eq_false_iff_not] at ha hb
  simp only[Bool.true_eq_false,if_false]
  split <;> split <;> (try split) <;> (try split) <;> omega
theorem uN {row many:Int} {closed:Bool} : ∀ {s r:List ab},cx row many closed s=some r→r.length≤s.length ∧ ∀ d∈r,∃ c∈s,d8 row many closed c.1=false∧d.1=gn row many closed c.1∧qZ (fD row many closed) c.2.1=some d.2.1∧ao d.1=true
 | [],r,h=>by
  unfold cx at h
  cases h
  exact⟨Nat.le_refl _,fun d hd=>by cases hd⟩
 | c :: l,r,h=>by
  unfold cx at h
  by_cases hg:d8 row many closed c.1=true
  ·rw[if_pos hg] at h
   obtain⟨h1,h2⟩:=uN h
   exact⟨by rw[List.length_cons]; omega,fun d hd=>(h2 d hd).imp fun c hc=>⟨List.mem_cons_of_mem _ hc.1,hc.2⟩⟩
  ·rw[if_neg hg] at h
   cases hy:qZ (fD row many closed) c.2.1 with
   | none=>rw[hy] at h; cases h
   | some y =>
    rw[hy] at h
    simp only at h
    by_cases ho:ao (gn row many closed c.1)=true
    ·rw[if_pos ho] at h
     cases hr:cx row many closed l with
     | none=>rw[hr] at h; cases h
     | some q =>
      rw[hr] at h
      simp only[Option.map_some,Option.some.injEq] at h
      subst h
      obtain⟨h1,h2⟩:=uN hr
      refine⟨by simp only[List.length_cons]; omega,fun d hd => ?_⟩
      rcases List.mem_cons.1 hd with rfl | hd
      ·exact⟨c,List.mem_cons_self,by simpa using hg,rfl,hy,ho⟩
      ·exact(h2 d hd).imp fun c hc=>⟨List.mem_cons_of_mem _ hc.1,hc.2⟩
    ·rw[if_neg ho] at h
     cases h
theorem Ad {row many:Int} {closed:Bool} (hm:0≤many) : ∀ {s r:List ab},dN s→cx row many closed s=some r→dN r
 | [],r,_,h=>by
  unfold cx at h
  cases h
  exact List.Pairwise.nil
 | c :: l,r,hs,h=>by
  have hs':=List.pairwise_cons.1 hs
  unfold cx at h
  by_cases hg:d8 row many closed c.1=true
  ·rw[if_pos hg] at h
   exact Ad hm hs'.2 h
  ·rw[if_neg hg] at h
   cases hy:qZ (fD row many closed) c.2.1 with
   | none=>rw[hy] at h; cases h
   | some y =>
    rw[hy] at h
    simp only at h
    by_cases ho:ao (gn row many closed c.1)=true
    ·rw[if_pos ho] at h
     cases hr:cx row many closed l with
     | none=>rw[hr] at h; cases h
     | some q =>
      rw[hr] at h
      simp only[Option.map_some,Option.some.injEq] at h
      subst h
      refine List.pairwise_cons.2 ⟨fun d hd => ?_,Ad hm hs'.2 hr⟩
      obtain⟨e,he,g1,g2,_,_⟩:=(uN hr).2 d hd
      dsimp only
      rw[g2]
      exact NG hm (by simpa using hg) g1 (hs'.1 e he)
    ·rw[if_neg ho] at h
     cases h
theorem Rf {row many:Int} {closed:Bool} (hm:0≤many) {s r:List ab} (hs:aH s=true) (h:cx row many closed s=some r):aH r=true:=by
 obtain⟨h1,h2⟩:=uN h
 have hl:=gK hs
 refine J9 ⟨Ad hm (eB hs) h,fun d hd => ?_⟩ (by omega)
 obtain⟨c,hc,_,_,g3,g4⟩:=h2 d hd
 exact⟨g4,FX ((dA.1 hs).2.1 c hc).2 g3⟩
def ca (a:aW) (s:List ab):List ab:=s.filter fun c => !(bz c.1.1 a.1.1 a.2.1.1 && bz c.1.2.1 a.1.2.1 a.2.1.2.1)
theorem L9 {a:aW} {s:List ab} (h:aH s=true):aH (ca a s)=true:=by
 have hl:=gK h
 have:=List.length_filter_le (fun c:ab => !(bz c.1.1 a.1.1 a.2.1.1 && bz c.1.2.1 a.1.2.1 a.2.1.2.1)) s
 refine J9 ⟨List.Pairwise.filter _ (eB h),fun c hc=>(dA.1 h).2.1 c (List.mem_filter.1 hc).1⟩ (Nat.le_trans this hl)
def rk (a:aW) (q:ai):Bool:=bz q.1 a.1.1 a.2.1.1 && bz q.2.1 a.1.2.1 a.2.1.2.1
def tI (c r:Int) (q:ai):ai:=(q.1+c,q.2.1+r,())
noncomputable def gp (a:aW) (c r:Int):List ab→Option (List ab)
 | []=>some []
 | x :: l=>if rk a x.1=true then(match qZ (j0 c r) x.2.1 with
  | none=>none
  | some y=>(gp a c r l).map fun q=>(tI c r x.1,y,()) :: q) else gp a c r l
theorem tJ {a:aW} {c r:Int} : ∀ {s q:List ab},gp a c r s=some q→q.length≤s.length ∧ ∀ d∈q,∃ x∈s,rk a x.1=true∧d.1=tI c r x.1∧qZ (j0 c r) x.2.1=some d.2.1
 | [],q,h=>by
  unfold gp at h
  cases h
  exact⟨Nat.le_refl _,fun d hd=>by cases hd⟩
 | x :: l,q,h=>by
  unfold gp at h
  by_cases hg:rk a x.1=true
  ·rw[if_pos hg] at h
   cases hy:qZ (j0 c r) x.2.1 with
   | none=>rw[hy] at h; cases h
   | some y =>
    rw[hy] at h
    simp only at h
    cases hr:gp a c r l with
    | none=>rw[hr] at h; cases h
    | some p =>
     rw[hr] at h
     simp only[Option.map_some,Option.some.injEq] at h
     subst h
     obtain⟨h1,h2⟩:=tJ hr
     refine⟨by simp only[List.length_cons]; omega,fun d hd => ?_⟩
     rcases List.mem_cons.1 hd with rfl | hd
     ·exact⟨x,List.mem_cons_self,hg,rfl,hy⟩
     ·exact(h2 d hd).imp fun c hc=>⟨List.mem_cons_of_mem _ hc.1,hc.2⟩
  ·rw[if_neg hg] at h
   obtain⟨h1,h2⟩:=tJ h
   exact⟨by rw[List.length_cons]; omega,fun d hd=>(h2 d hd).imp fun c hc=>⟨List.mem_cons_of_mem _ hc.1,hc.2⟩⟩
theorem PO {c r:Int} {a b:ai} (h:bw a b=true):bw (tI c r a) (tI c r b)=true:=by
 rw[jo] at h ⊢
 unfold tI
 dsimp only
 omega
theorem CP {a:aW} {c r:Int} : ∀ {s q:List ab},dN s→gp a c r s=some q→dN q
 | [],q,_,h=>by
  unfold gp at h
  cases h
  exact List.Pairwise.nil
 | x :: l,q,hs,h=>by
  have hs':=List.pairwise_cons.1 hs
  unfold gp at h
  by_cases hg:rk a x.1=true
  ·rw[if_pos hg] at h
   cases hy:qZ (j0 c r) x.2.1 with
   | none=>rw[hy] at h; cases h
   | some y =>
    rw[hy] at h
    simp only at h
    cases hr:gp a c r l with
    | none=>rw[hr] at h; cases h
    | some p =>
     rw[hr] at h
     simp only[Option.map_some,Option.some.injEq] at h
     subst h
     refine List.pairwise_cons.2 ⟨fun d hd => ?_,CP hs'.2 hr⟩
     obtain⟨e,he,_,g2,_⟩:=(tJ hr).2 d hd
     dsimp only
     rw[g2]
     exact PO (hs'.1 e he)
  ·rw[if_neg hg] at h
   exact CP hs'.2 h
noncomputable def gB (s q:List ab):List ab:=q.foldl (fun o c=>cU o c.1 c.2.1) s
theorem Kl : ∀ {q s:List ab},dN s→dN (gB s q)
 | [],s,h=>h
 | c :: q,s,h=>Kl (q:=q) (wI h)
end Go.Proofs.YtddiiceaindlhaaGreatDoor.Abs
set_option linter.unusedVariables false
set_option linter.unusedSimpArgs false
set_option linter.unusedSectionVars false
namespace Go.Proofs.YtddiiceaindlhaaGreatDoor.Abs
open Go
abbrev cD:=Int×ai×ByteArray×aW×Int×Int×Unit
def ji (a:aW):Bool:=ao a.1 && (ao a.2.1 && (decide (a.1.1≤a.2.1.1) && decide (a.1.2.1≤a.2.1.2.1)))
def fg (e:cD):aW:=(e.2.1,(e.2.2.2.1.2.1.1+(e.2.1.1 - e.2.2.2.1.1.1),e.2.2.2.1.2.1.2.1+(e.2.1.2.1 - e.2.2.2.1.1.2.1),()),())
noncomputable def tK (s:List ab) (e:cD):List ab×Bool :=
 if ji e.2.2.2.1=true∧ao e.2.1=true∧ao (fg e).2.1=true then
  match gp e.2.2.2.1 (e.2.1.1 - e.2.2.2.1.1.1) (e.2.1.2.1 - e.2.2.2.1.1.2.1) s with
  | none=>([],false)
  | some q=>if(gB (ca (fg e) s) q).length≤120 then(gB (ca (fg e) s) q,true) else([],false)
 else([],false)
noncomputable def Ae (s:List ab) (e:cD):List ab×Bool :=
 if bz e.2.2.2.2.1 1 99=true∧bz e.2.2.2.2.2.1 1 99=true then
  match cx e.2.2.2.2.1 e.2.2.2.2.2.1 (decide (e.1=4)) s with
  | none=>([],false)
  | some r=>(r,true)
 else([],false)
noncomputable def gb (s:List ab) (e:cD):List ab×Bool :=
 if e.1=1 then qX s e.2.1 e.2.2.1
 else if e.1=2 then(if ji e.2.2.2.1=true then(ca e.2.2.2.1 s,true) else([],false))
 else if e.1=3∨e.1=4 then Ae s e
 else if e.1=5 then tK s e
 else([],false)
theorem TM {s:List ab} {r:ai} {x:ByteArray} (hx:x.size≤9223372036854775807) (h:(qX s r x).2=true):aH (qX s r x).1=true:=by
 unfold qX at h ⊢
 by_cases k:aH s=true∧ao r=true∧(eL x).2=true∧(cU s r (eL x).1).length≤120
 ·rw[if_pos k]
  exact B0 k.1 k.2.1 (fun hne=>(Sx hx k.2.2.1).resolve_left hne) k.2.2.2
 ·rw[if_neg k] at h
  cases h
theorem Ma : ∀ {q s:List ab},G1 s→(∀ c∈q,ao c.1=true∧dH c.2.1=true)→G1 (gB s q)
 | [],s,h,_=>h
 | c :: q,s,h,hq=>Ma (q:=q) (Sl h (hq c List.mem_cons_self).1 (fun _=>(hq c List.mem_cons_self).2)) (fun d hd=>hq d (List.mem_cons_of_mem _ hd))
theorem Km {a:aW}:ji a=true↔ao a.1=true∧ao a.2.1=true∧a.1.1≤a.2.1.1∧a.1.2.1≤a.2.1.2.1:=by
 unfold ji
 simp only[Bool.and_eq_true,decide_eq_true_eq]
theorem TN {s:List ab} {e:cD} (hs:aH s=true) (h:(tK s e).2=true):aH (tK s e).1=true:=by
 unfold tK at h ⊢
 by_cases k:ji e.2.2.2.1=true∧ao e.2.1=true∧ao (fg e).2.1=true
 ·rw[if_pos k] at h ⊢
  cases hq:gp e.2.2.2.1 (e.2.1.1 - e.2.2.2.1.1.1) (e.2.1.2.1 - e.2.2.2.1.1.2.1) s with
  | none=>rw[hq] at h; cases h
  | some q =>
   rw[hq] at h
   simp only at h ⊢
   by_cases hl:(gB (ca (fg e) s) q).length≤120
   ·rw[if_pos hl]
    refine J9 (Ma (Ey (L9 hs)) fun c hc => ?_) hl
    obtain⟨x,hx,g1,g2,g3⟩:=(tJ hq).2 c hc
    refine⟨?_,FX ((dA.1 hs).2.1 x hx).2 g3⟩
    rw[g2]
    have k2:=bA.1 k.2.1
    have k3:=bA.1 k.2.2
    unfold rk at g1
    rw[Bool.and_eq_true,bd,bd] at g1
    unfold fg at k3
    unfold tI
    rw[bA]
    dsimp only at k3 ⊢
    omega
   ·rw[if_neg hl] at h
    cases h
 ·rw[if_neg k] at h
  cases h
theorem EL {s:List ab} {e:cD} (hx:e.2.2.1.size≤9223372036854775807) (hs:aH s=true) (h:(gb s e).2=true):aH (gb s e).1=true:=by
 unfold gb at h ⊢
 by_cases k1:e.1=1
 ·rw[if_pos k1] at h ⊢
  exact TM hx h
 ·rw[if_neg k1] at h ⊢
  by_cases k2:e.1=2
  ·rw[if_pos k2] at h ⊢
   by_cases ka:ji e.2.2.2.1=true
   ·rw[if_pos ka]
    exact L9 hs
   ·rw[if_neg ka] at h
    cases h
  ·rw[if_neg k2] at h ⊢
   by_cases k3:e.1=3∨e.1=4
   ·rw[if_pos k3] at h ⊢
    unfold Ae at h ⊢
    by_cases kr:bz e.2.2.2.2.1 1 99=true∧bz e.2.2.2.2.2.1 1 99=true
    ·rw[if_pos kr] at h ⊢
     cases hr:cx e.2.2.2.2.1 e.2.2.2.2.2.1 (decide (e.1=4)) s with
     | none=>rw[hr] at h; cases h
     | some r =>
      have:=bd.1 kr.2
      exact Rf (by omega) hs hr
    ·rw[if_neg kr] at h
     cases h
   ·rw[if_neg k3] at h ⊢
    by_cases k5:e.1=5
    ·rw[if_pos k5] at h ⊢
     exact TN hs h
    ·rw[if_neg k5] at h
     cases h
noncomputable def iA:List ab→List cD→Option (List ab)
 | s,[]=>some s
 | s,e :: l=>if(gb s e).2=true then iA (gb s e).1 l else none
theorem Mb : ∀(l m:List cD) (s:List ab),iA s (l++m)=(iA s l).bind fun t=>iA t m
 | [],m,s=>rfl
 | e :: l,m,s=>by
  show(if(gb s e).2=true then iA (gb s e).1 (l++m) else none)=(if(gb s e).2=true then iA (gb s e).1 l else none).bind _
  split
  ·exact Mb l m _
  ·rfl
theorem Kn : ∀ {l:List cD} {s t:List ab},(∀ e∈l,e.2.2.1.size≤9223372036854775807)→aH s=true→iA s l=some t→aH t=true
 | [],s,t,_,hs,h=>by cases h; exact hs
 | e :: l,s,t,hx,hs,h=>by
  unfold iA at h
  split at h
  ·rename_i k
   exact Kn (fun d hd=>hx d (List.mem_cons_of_mem _ hd)) (EL (hx e List.mem_cons_self) hs k) h
  ·cases h
def tL (q:ai) (x:ByteArray):cD:=(1,q,x,((0,0,()),(0,0,()),()),0,0,())
theorem Sy {s:List ab} {q:ai} {x:ByteArray} (hs:aH s=true) (hq:ao q=true) (hx:x=eS∨dH x=true) (hl:(cU s q x).length≤120):qX s q x=(cU s q x,true):=by
 have hi:eL x=(x,true):=by
  rcases hx with rfl | hx
  ·exact Sn
  ·obtain⟨h1,h2,h3⟩:=zU.1 hx
   exact Prod.ext h3 h1
 unfold qX
 rw[hi]
 exact if_pos ⟨hs,hq,rfl,hl⟩
end Go.Proofs.YtddiiceaindlhaaGreatDoor.Abs
set_option linter.unusedVariables false
set_option linter.unusedSimpArgs false
set_option linter.unusedSectionVars false
namespace Go.Proofs.YtddiiceaindlhaaGreatDoor.Abs
open Go
noncomputable def EM (s a:List ab):List cD :=
 ((nO s a).filter fun c=>decide (c.2.1=eS)).map (fun c=>tL c.1 eS)++((nO s a).filter fun c => !decide (c.2.1=eS)).map (fun c=>tL c.1 c.2.1)
theorem Hc : ∀ {l m:List ai},l.Nodup→(∀ x∈l,x∈m)→l.length≤m.length
 | [],m,_,_=>Nat.zero_le _
 | x :: l,m,h,hm=>by
  have h':=List.nodup_cons.1 h
  have hx:=hm x List.mem_cons_self
  have ih:=Hc (m:=m.erase x) h'.2 fun y hy=>(List.mem_erase_of_ne (fun e=>h'.1 (by rw[←e]; exact hy))).2 (hm y (List.mem_cons_of_mem _ hy))
  rw[List.length_erase_of_mem hx] at ih
  have:=List.length_pos_of_mem hx
  rw[List.length_cons]
  omega
theorem PP {s:List ab} (h:dN s):(s.map fun c=>c.1).Nodup:=by
 unfold List.Nodup
 rw[List.pairwise_map]
 exact h.imp fun k=>tE k
theorem Sz {t s:List ab} (ht:dN t) (hs:dN s) (h : ∀ c∈t,bp c.1 s≠eS):t.length≤s.length:=by
 have:=Hc (l:=t.map fun c=>c.1) (m:=s.map fun c=>c.1) (PP ht) fun q hq=>by
  obtain⟨c,hc,rfl⟩:=List.mem_map.1 hq
  rcases nh (q:=c.1) hs with⟨d,hd,e,_⟩ | ⟨_,e⟩
  ·exact List.mem_map.2 ⟨d,hd,e⟩
  ·exact absurd e (h c hc)
 simpa using this
section
variable {s a:List ab} (hs:aH s=true) (ha:aH a=true)
def F0 (s a:List ab) (done:List ai) (t:List ab):Prop:=aH t=true ∧ ∀ q,bp q t=if q∈done then bp q s else bp q a
include hs ha
theorem PQ {t:List ab} {q:ai} {x:ByteArray} {l:List cD} (ht:aH t=true) (hq:ao q=true) (hx:x=eS∨dH x=true) (hl:(cU t q x).length≤120):iA t (tL q x :: l)=iA (cU t q x) l:=by
 have e:gb t (tL q x)=(cU t q x,true):=by
  unfold gb
  rw[if_pos (show(tL q x).1=1 from rfl)]
  exact Sy ht hq hx hl
 show(if(gb t (tL q x)).2=true then iA (gb t (tL q x)).1 l else none)=_
 rw[e,if_pos rfl]
theorem Mc {t:List ab} {done:List ai} {q:ai} (h:F0 s a done t) (hq:ao q=true) (hx:bp q s=eS∨dH (bp q s)=true) (hl:(cU t q (bp q s)).length≤120):F0 s a (done++[q]) (cU t q (bp q s)):=by
 refine⟨B0 h.1 hq (fun hne=>hx.resolve_left hne) hl,fun p => ?_⟩
 rw[Pk (eB h.1),h.2 p]
 by_cases e:p=q
 ·subst e
  rw[if_pos rfl,if_pos (by simp)]
 ·rw[if_neg e]
  by_cases k:p∈done
  ·rw[if_pos k,if_pos (List.mem_append_left _ k)]
  ·rw[if_neg k,if_neg (by simp[k,e])]
theorem Md : ∀(L:List dk) (done:List ai) (t:List ab),(∀ c∈L,ao c.1=true∧bp c.1 s=eS)→F0 s a done t → ∀ m:List cD,∃ t',iA t (L.map (fun c=>tL c.1 eS)++m)=iA t' m∧F0 s a (done++L.map fun c=>c.1) t'
 | [],done,t,_,h,m=>⟨t,rfl,by simpa using h⟩
 | c :: L,done,t,hL,h,m=>by
  obtain⟨h1,h2⟩:=hL c List.mem_cons_self
  have hlen:(cU t c.1 eS).length≤120:=by
   unfold cU
   rw[if_pos rfl]
   exact Nat.le_trans (A0 _ _) (gK h.1)
  have hm:=Mc hs ha h h1 (.inl h2) (by rw[h2]; exact hlen)
  rw[h2] at hm
  obtain⟨t',e,k⟩:=Md L (done++[c.1]) _ (fun d hd=>hL d (List.mem_cons_of_mem _ hd)) hm m
  refine⟨t',?_,by simpa using k⟩
  rw[←e]
  exact PQ hs ha h.1 h1 (.inl rfl) hlen
theorem Me : ∀(L:List dk) (done:List ai) (t:List ab),(∀ c∈L,ao c.1=true∧c.2.1=bp c.1 s∧bp c.1 s≠eS∧dH (bp c.1 s)=true)→(∀ c∈t,bp c.1 s≠eS)→F0 s a done t → ∃ t',iA t (L.map fun c=>tL c.1 c.2.1)=some t'∧F0 s a (done++L.map fun c=>c.1) t'
 | [],done,t,_,_,h=>⟨t,rfl,by simpa using h⟩
 | c :: L,done,t,hL,hk,h=>by
  obtain⟨h1,h2,h3,h4⟩:=hL c List.mem_cons_self
  have hk' : ∀ d∈cU t c.1 (bp c.1 s),bp d.1 s≠eS:=by
   intro d hd
   rcases nN.1 hd with⟨k,_⟩ | ⟨_,rfl⟩
   ·exact hk d k
   ·exact h3
  have hlen:(cU t c.1 (bp c.1 s)).length≤120:=Nat.le_trans (Sz (wI (eB h.1)) (eB hs) hk') (gK hs)
  have hm:=Mc hs ha h h1 (.inr h4) hlen
  obtain⟨t',e,k⟩:=Me L (done++[c.1]) _ (fun d hd=>hL d (List.mem_cons_of_mem _ hd)) hk' hm
  refine⟨t',?_,by simpa using k⟩
  rw[←e]
  show iA t (tL c.1 c.2.1 :: _)=_
  rw[h2]
  exact PQ hs ha h.1 h1 (.inr h4) hlen
theorem T6:iA a (EM s a)=some s:=by
 have hos:=Ey hs
 have hoa:=Ey ha
 have hch : ∀ c∈nO s a,QW s a c:=fun c hc=>A1.1 hc
 unfold EM
 obtain⟨t,e1,k1⟩:=Md hs ha ((nO s a).filter fun c=>decide (c.2.1=eS)) [] a (by
  intro c hc
  obtain⟨hc1,hc2⟩:=List.mem_filter.1 hc
  rw[decide_eq_true_eq] at hc2
  obtain⟨i1,i2,i3⟩:=hch c hc1
  have hz:bp c.1 a≠eS:=by
   rw[←i2]
   intro k
   exact i3 (hc2.trans k.symm)
  exact⟨(FQ hoa hz).1,i1 ▸ hc2⟩) ⟨ha,fun q=>by simp⟩ (((nO s a).filter fun c => !decide (c.2.1=eS)).map (fun c=>tL c.1 c.2.1))
 rw[e1]
 obtain⟨t',e2,k2⟩:=Me hs ha ((nO s a).filter fun c => !decide (c.2.1=eS)) _ t (by
  intro c hc
  obtain⟨hc1,hc2⟩:=List.mem_filter.1 hc
  simp only[Bool.not_eq_true',decide_eq_false_iff_not] at hc2
  obtain⟨i1,i2,i3⟩:=hch c hc1
  have hz:bp c.1 s≠eS:=i1 ▸ hc2
  exact⟨(FQ hos hz).1,i1,hz,(FQ hos hz).2⟩) (by
  intro c hc hz
  have hcs:=iy (eB k1.1) hc
  have hne:=xS k1.1 c hc
  have hq:=k1.2 c.1
  rw[hcs] at hq
  by_cases k:c.1∈([]:List ai)++((nO s a).filter fun c=>decide (c.2.1=eS)).map fun c=>c.1
  ·rw[if_pos k,hz] at hq
   exact hne hq
  ·rw[if_neg k] at hq
   apply k
   rw[List.nil_append,List.mem_map]
   refine⟨(c.1,bp c.1 s,bp c.1 a,()),List.mem_filter.2 ⟨A1.2 ⟨rfl,rfl,?_⟩,?_⟩,rfl⟩
   ·show bp c.1 s≠bp c.1 a
    rw[hz,←hq]
    exact fun e=>hne e.symm
   ·show decide (bp c.1 s=eS)=true
    exact decide_eq_true hz) k1
 rw[e2]
 congr 1
 refine Pl (eB k2.1) (eB hs) (xS k2.1) (xS hs) fun q => ?_
 rw[k2.2 q]
 split
 ·rfl
 ·rename_i k
  apply Classical.byContradiction
  intro hne
  apply k
  have hm:((q,bp q s,bp q a,()):dk)∈nO s a:=A1.2 ⟨rfl,rfl,fun e=>hne e.symm⟩
  by_cases hz:bp q s=eS
  ·exact List.mem_append_left _ (List.mem_append_right _ (List.mem_map.2 ⟨_,List.mem_filter.2 ⟨hm,decide_eq_true hz⟩,rfl⟩))
  ·exact List.mem_append_right _ (List.mem_map.2 ⟨_,List.mem_filter.2 ⟨hm,by simpa using hz⟩,rfl⟩)
end
theorem SA {a:aW} {q:ai} {s:List ab} (h:dN s):bp q (ca a s)=if(bz q.1 a.1.1 a.2.1.1 && bz q.2.1 a.1.2.1 a.2.1.2.1)=true then eS else bp q s:=by
 have hs':dN (ca a s):=List.Pairwise.filter _ h
 by_cases hq:(bz q.1 a.1.1 a.2.1.1 && bz q.2.1 a.1.2.1 a.2.1.2.1)=true
 ·rw[if_pos hq]
  refine ng fun c hc e => ?_
  have:=(List.mem_filter.1 hc).2
  rw[e,hq] at this
  cases this
 ·rw[if_neg hq]
  rcases nh (q:=q) h with⟨c,hc,rfl,e⟩ | ⟨hn,e⟩
  ·rw[←e]
   exact iy hs' (List.mem_filter.2 ⟨hc,by rw[Bool.not_eq_true']; exact(Bool.not_eq_true _).mp hq⟩)
  ·rw[e]
   exact ng fun c hc=>hn c (List.mem_filter.1 hc).1
theorem SB (a:aW) (s:List ab):ca a (ca a s)=ca a s:=by
 unfold ca
 rw[List.filter_filter]
 simp
end Go.Proofs.YtddiiceaindlhaaGreatDoor.Abs
set_option linter.unusedVariables false
set_option linter.unusedSimpArgs false
set_option linter.unusedSectionVars false
namespace Go.Proofs.YtddiiceaindlhaaGreatDoor.Abs
open Go
def dr (a:aW) (c:ab):Bool:=bz c.1.1 a.1.1 a.2.1.1 && bz c.1.2.1 a.1.2.1 a.2.1.2.1
theorem mG (a:aW) (r:ai):k6 a r=some ((bz r.1 a.1.1 a.2.1.1 && bz r.2.1 a.1.2.1 a.2.1.2.1,()),()):=by
 rw[Jq]
 simp only[jG,Option.bind_some]
 cases bz r.1 a.1.1 a.2.1.1 <;> simp
theorem Ko (c:ab) (e:cD):ql c e=some ((dr e.2.2.2.1 c,()),(e,())):=by
 rw[Fu,mG]
 rfl
theorem SC (c:ab) (e:cD):xq c e.1 e.2.1 e.2.2.1 e.2.2.2.1 e.2.2.2.2.1 e.2.2.2.2.2.1=some ((dr e.2.2.2.1 c,()),(e,())):=by
 rw[HK,mG]
 rfl
theorem SD {s:List ab} {e:cD} (hl:s.length≤1000000000) : ∀(ys pre:List ab),s=pre++ys→b9 s (s.length:Int) (pre.length:Int) e=some ((jh (dr e.2.2.2.1) ys pre.length,()),(e,())) :=
 xT (p:=dr e.2.2.2.1) (d:=ag.dflt) (F:=fun j=>some ((j,()),(e,()))) (s:=s) (P:=fun j=>b9 s (s.length:Int) j e) (by omega) fun j=>by
  rw[jU]
  simp only[Ko,Option.bind_some]
theorem SE {s:List ab} {e:cD} (hl:s.length≤1000000000):eH s e.1 e.2.1 e.2.2.1 e.2.2.2.1 e.2.2.2.2.1 e.2.2.2.2.2.1=some ((jh (dr e.2.2.2.1) s 0,()),(e,())):=by
 rw[lV,ku]
 cases s with
 | nil=>rfl
 | cons c l =>
  have h2:=SD (e:=e) hl l [c] rfl
  rw[aI (by rw[List.length_cons]; omega)]
  have hix : ∀ {β:Type} {F:ab→Option β},ix (c :: l) 0 ag.dflt F=F c:=fun {β F}=>bU (pre:=[]) (ys:=l) rfl
  rw[hix,SC,Option.bind_some]
  dsimp only
  unfold jh
  by_cases h:dr e.2.2.2.1 c=true
  ·rw[if_pos h,if_pos h]
   rfl
  ·rw[if_neg h,if_neg h]
   exact h2
theorem SF {s:List ab} {e:cD} (hl:s.length≤1000000000):dX s e.1 e.2.1 e.2.2.1 e.2.2.2.1 e.2.2.2.2.1 e.2.2.2.2.2.1=some ((ca e.2.2.2.1 s,()),(e,())):=by
 rw[kp,SE hl,Option.bind_some]
 dsimp only
 have hc:ca e.2.2.2.1 s=s.filter fun c => !dr e.2.2.2.1 c:=rfl
 rw[hc]
 by_cases h:jh (dr e.2.2.2.1) s 0 = -1
 ·rw[h,if_pos (by rfl)]
  have:=A2 h
  have hf:(s.filter fun c => !dr e.2.2.2.1 c)=s:=List.filter_eq_self.2 fun c hc=>by
   have:=this c hc
   simpa using this
  rw[hf]
 ·obtain⟨pre,x,ys,h1,h2,h3,h4⟩:=A3 h
  rw[if_neg (by simpa using h),h4,Nat.zero_add]
  have hlen:pre.length+1+ys.length≤1000000000:=by rw[h1] at hl; simp at hl; omega
  have hd:=tG (p:=dr e.2.2.2.1) (d:=ag.dflt) (P:=fun i j xs=>bT i j xs e) (F:=fun l=>some ((l,()),(e,()))) (fun i j xs=>by
   rw[jk]
   simp only[Ko,Option.bind_some]) ys pre [x] (by simp only[List.length_singleton]; omega) (by simp)
  rw[wr (by omega) (by omega)]
  have e1:pre++[x]++ys=s:=by rw[h1]; simp
  have e2:((pre.length+[x].length:Nat):Int)=(pre.length:Int)+1:=by simp
  rw[e1,e2] at hd
  refine hd.trans ?_
  have e3:(s.filter fun c => !dr e.2.2.2.1 c)=pre++ys.filter fun c => !dr e.2.2.2.1 c:=by
   rw[h1,List.filter_append,List.filter_cons_of_neg (by simp[h2])]
   congr 1
   rw[List.filter_eq_self]
   intro c hc
   simpa using h3 c hc
  rw[e3]
theorem Hd {s:List ab} {a:aW} (hl:s.length≤1000000) {k:Int} {q:ai} {t:ByteArray} {m n:Int} : ∀(ys pre acc:List ab),s=pre++ys→acc.length≤pre.length→jP s (pre.length:Int) k q t a m n acc=some ((acc++ca a ys,true,()),())
 | [],pre,acc,h,_=>by
  rw[tv,aE (ct h)]
  simp[ca]
 | y :: ys,pre,acc,h,ha=>by
  have hlen:pre.length≤1000000:=by
   have:=congrArg List.length h
   simp only[List.length_append,List.length_cons] at this
   omega
  have ih:=fun acc' h'=>Hd (a:=a) hl (k:=k) (q:=q) (t:=t) (m:=m) (n:=n) ys (pre++[y]) acc' (aZ h) h'
  have hw:k7 y.1 a=some ((dr a y,()),()):=by
   rw[tf]
   simp only[eJ,Option.bind_some]
   unfold dr
   cases bz y.1.1 a.1.1 a.2.1.1 <;> simp
  rw[tv,aI (cK h),bU h,hw,Option.bind_some,bU h,bk h (by omega)]
  dsimp only
  have e:ca a (y :: ys)=(if dr a y=true then [] else [y])++ca a ys:=by
   unfold ca
   rw[List.filter_cons]
   show(if(!dr a y)=true then _ else _)=_
   cases dr a y <;> rfl
  cases hh:dr a y with
  | true =>
   rw[if_neg (by decide),ih acc (by simp only[List.length_append,List.length_singleton]; omega),e,hh]
   simp
  | false =>
   rw[if_pos (by rfl),bG (by simp only[List.length_singleton]; omega),ih _ (by simp only[List.length_append,List.length_singleton]; omega),e,hh]
   simp
def pm (a:aW):cD:=(2,(0,0,()),eS,a,0,0,())
section
variable {s:List ab} {a:aW} (hs : ∀ c∈s,c.2.1.size≤9223372036854775807) (hl:s.length≤1000000)
include hs hl
end
end Go.Proofs.YtddiiceaindlhaaGreatDoor.Abs
set_option linter.unusedVariables false
set_option linter.unusedSimpArgs false
set_option linter.unusedSectionVars false
namespace Go.Proofs.YtddiiceaindlhaaGreatDoor.Abs
open Go
theorem NH {x:ByteArray} (hx:x.size≤9223372036854775807):oF x=some (((iz x).getD [],(iz x).isSome,()),()):=by
 have hl:(lb x).length≤9223372036854775807:=by rw[pP]; exact hx
 have hc:cl x (⟨#[61]⟩:ByteArray)=some ((ba (if [61].isPrefixOf (lb x)=true then(lb x).drop 1 else lb x),[61].isPrefixOf (lb x),()),()):=by
  have:=qV (lb x) [61] hl
  rwa[f0] at this
 have hsz:(ba ((lb x).drop 1)).size≤9223372036854775807:=by
  rw[aq,List.length_drop]
  omega
 have hp:List.isPrefixOf [61] (lb x)=decide ((lb x).head? = some 61):=by
  cases lb x with
  | nil=>rfl
  | cons b l =>
   by_cases h:b=61
   ·subst h
    rfl
   ·simp[List.isPrefixOf,h,Ne.symm h]
 rw[HL,hc,hp]
 simp only[Option.bind_some]
 unfold iz
 by_cases hb:(lb x).head? = some 61
 ·simp only[hb,decide_true,Bool.not_true,Bool.false_eq_true,if_false,if_true,true_and]
  rw[(qY hsz).2.1]
  simp only[Option.bind_some]
  cases hr:(gw (ba ((lb x).drop 1))).2 with
  | true=>rfl
  | false =>
   rw[(qY hsz).2.2.2 hr]
   rfl
 ·simp only[hb,decide_false,Bool.not_false,if_true,false_and,if_false]
  rfl
theorem RF {x:ByteArray} (hx:x.size≤9223372036854775807):lL x=some (((iz x).getD [],(iz x).isSome,()),()):=by
 rw[HO]
 unfold iz
 cases hl':lb x with
 | nil =>
  have he:x=ba []:=by rw[←f0 x,hl']
  have h2:(ByteArray.toList x == ByteArray.toList (⟨#[]⟩:ByteArray))=true:=by
   rw[he]
   have:(⟨#[]⟩:ByteArray)=ba []:=rfl
   rw[this,cT]
   simp
  rw[if_pos h2,if_neg (by simp)]
  rfl
 | cons b l =>
  have hx':x=ba (b :: l):=by rw[←hl',f0]
  subst hx'
  have hsz:(ba l).size≤9223372036854775807:=by
   rw[aq] at hx ⊢
   simp only[List.length_cons] at hx
   omega
  have he:(ByteArray.toList (ba (b :: l)) == ByteArray.toList (⟨#[]⟩:ByteArray))=false:=by
   have:(⟨#[]⟩:ByteArray)=ba []:=rfl
   rw[this,cT]
   simp
  rw[he,o0]
  simp only[Bool.false_eq_true,if_false]
  by_cases hb:b=61
  ·subst hb
   rw[if_neg (by decide)]
   have hsl : ∀(k:ByteArray→Option ((List aa×(Bool×Unit))×Unit)),il (ba (61 :: l)) 1 k=k (ba l):=fun k=>by
    have:=fy (l:=61 :: l) (n:=1) (f:=k) (by simp)
    exact this
   rw[hsl,(qY hsz).1]
   simp only[Option.bind_some,List.head?_cons,true_and,List.drop_succ_cons,List.drop_zero]
   cases hr:(gw (ba l)).2 with
   | true=>rfl
   | false =>
    rw[(qY hsz).2.2.2 hr]
    rfl
  ·have hb':((b.toNat:Int) != 61)=true:=by
    rw[bne_iff_ne]
    intro h
    apply hb
    apply UInt8.toNat_inj.1
    have:((61:UInt8).toNat)=61:=rfl
    omega
   rw[if_pos hb']
   simp only[List.head?_cons,Option.some.injEq,hb,false_and,if_false]
   rfl
def He (f:List aa):Bool:=decide (bN f≠[]∧(bN f).length < 200)
section
variable {f:List aa} (hf:fp f=true)
include hf
theorem lr:nD f=some ((ba (61 :: bN f),He f,()),()):=by
 have hs:=Aa hf
 have hl:=Ab f
 rw[zx,(CO (by omega) hs.2.1 hs.2.2).1]
 simp only[Option.bind_some]
 have hc : ∀(k:ByteArray→Option ((ByteArray×(Bool×Unit))×Unit)),cats (⟨#[61]⟩:ByteArray) (ba (bN f)) k=k (ba (61 :: bN f)):=fun k=>by
  have:=bm (a:=[61]) (b:=bN f) (f:=k) (by simp only[List.length_singleton]; omega)
  exact this
 rw[hc]
 have he:(ByteArray.toList (ba (bN f)) == ByteArray.toList (⟨#[]⟩:ByteArray))=decide (bN f=[]):=by
  have:(⟨#[]⟩:ByteArray)=ba []:=rfl
  rw[this,cT]
 rw[he,aq]
 unfold He
 by_cases h:bN f=[]
 ·simp[h]
 ·simp only[h,decide_false,Bool.not_false,if_true,ne_eq,not_false_eq_true,true_and]
  have e:decide (((bN f).length:Int) < 200)=decide ((bN f).length < 200):=by
   rw[Bool.eq_iff_iff,decide_eq_true_eq,decide_eq_true_eq]
   omega
  rw[e]
theorem Af {b:Bool}:nE f b=some ((if b=true∧He f=true then ba (61 :: bN f) else eS,()),()):=by
 have hs:=Aa hf
 have hl:=Ab f
 rw[Jv,(CO (by omega) hs.2.1 hs.2.2).2]
 simp only[Option.bind_some]
 have hc : ∀(k:ByteArray→Option ((ByteArray×Unit)×Unit)),cats (⟨#[61]⟩:ByteArray) (ba (bN f)) k=k (ba (61 :: bN f)):=fun k=>by
  have:=bm (a:=[61]) (b:=bN f) (f:=k) (by simp only[List.length_singleton]; omega)
  exact this
 have he:(ByteArray.toList (ba (bN f)) == ByteArray.toList (⟨#[]⟩:ByteArray))=decide (bN f=[]):=by
  have:(⟨#[]⟩:ByteArray)=ba []:=rfl
  rw[this,cT]
 rw[he,hc,aq,dE (by omega) (by omega)]
 unfold He
 cases b with
 | false=>simp
 | true =>
  by_cases h:bN f=[]
  ·simp[h]
  ·simp only[h,decide_false,Bool.not_true,Bool.false_eq_true,if_false,ne_eq,not_false_eq_true,true_and,decide_eq_true_eq]
   by_cases h2:(bN f).length < 200
   ·rw[if_neg (by omega),if_pos h2]
   ·rw[if_pos (by omega),if_neg h2]
end
noncomputable def ry (g:aa→aa) (x:ByteArray):ByteArray×Bool:=match iz x with
 | none=>(x,true)
 | some f=>(ba (61 :: bN (f.map g)),He (f.map g))
theorem H8 (g:aa→aa) (x:ByteArray):qZ g x=if(ry g x).2=true then some (ry g x).1 else none:=by
 unfold qZ ry
 cases iz x with
 | none=>rfl
 | some f =>
  dsimp only
  unfold He
  simp only[decide_eq_true_eq]
section
variable {x:ByteArray} (hx:x.size≤9223372036854775807)
include hx
def vo (k:Int) (closed:Bool):Prop:=(k=3∧closed=false)∨(k=4∧closed=true)
theorem wP {e:cD} {closed:Bool} (hk:vo e.1 closed) (hr:1≤e.2.2.2.2.1∧e.2.2.2.2.1≤1000) (hm:0≤e.2.2.2.2.2.1∧e.2.2.2.2.2.1≤1000):dY x e=some (((ry (fD e.2.2.2.2.1 e.2.2.2.2.2.1 closed) x).1,(ry (fD e.2.2.2.2.1 e.2.2.2.2.2.1 closed) x).2,()),(e,())):=by
 rw[tP,NH hx]
 simp only[Option.bind_some]
 unfold ry
 cases hf:iz x with
 | none=>rfl
 | some f =>
  have hok:=tH hf hx
  have hok2:=wN (Ki e.2.2.2.2.1 e.2.2.2.2.2.1 closed) hok
  simp only[Option.isSome_some,Bool.not_true,Bool.false_eq_true,if_false,Option.getD_some]
  rw[JA]
  rcases hk with⟨hk,rfl⟩ | ⟨hk,rfl⟩
  ·rw[if_pos (by rw[hk]; rfl),EI hok hr (by omega)]
   simp only[Option.bind_some,lr hok2]
  ·rw[if_neg (by rw[hk]; decide),EJ hok hr hm]
   simp only[Option.bind_some,lr hok2]
theorem EN {e:cD} {closed:Bool} (hk:vo e.1 closed) (hr:1≤e.2.2.2.2.1∧e.2.2.2.2.1≤1000) (hm:0≤e.2.2.2.2.2.1∧e.2.2.2.2.2.1≤1000):ep x e.1 e.2.1 e.2.2.1 e.2.2.2.1 e.2.2.2.2.1 e.2.2.2.2.2.1=some (((ry (fD e.2.2.2.2.1 e.2.2.2.2.2.1 closed) x).1,(ry (fD e.2.2.2.2.1 e.2.2.2.2.2.1 closed) x).2,()),(e,())):=by
 rw[vd,NH hx]
 simp only[Option.bind_some]
 unfold ry
 cases hf:iz x with
 | none=>rfl
 | some f =>
  have hok:=tH hf hx
  have hok2:=wN (Ki e.2.2.2.2.1 e.2.2.2.2.2.1 closed) hok
  simp only[Option.isSome_some,Bool.not_true,Bool.false_eq_true,if_false,Option.getD_some]
  rw[KY]
  rcases hk with⟨hk,rfl⟩ | ⟨hk,rfl⟩
  ·rw[if_pos (by rw[hk]; rfl),EI hok hr (by omega)]
   simp only[Option.bind_some,lr hok2]
  ·rw[if_neg (by rw[hk]; decide),EJ hok hr hm]
   simp only[Option.bind_some,lr hok2]
theorem HU {c r:Int} (hc : -1000≤c∧c≤1000) (hr : -1000≤r∧r≤1000):jA x c r=some (((ry (j0 c r) x).1,(ry (j0 c r) x).2,()),(c,r,())):=by
 rw[tQ,NH hx]
 simp only[Option.bind_some]
 unfold ry
 cases hf:iz x with
 | none=>rfl
 | some f =>
  have hok:=tH hf hx
  have hok2:=wN (PH c r) hok
  simp only[Option.isSome_some,Bool.not_true,Bool.false_eq_true,if_false,Option.getD_some]
  rw[Jt,Le hok hc hr]
  simp only[Option.bind_some,lr hok2]
end
end Go.Proofs.YtddiiceaindlhaaGreatDoor.Abs
set_option linter.unusedVariables false
set_option linter.unusedSimpArgs false
set_option linter.unusedSectionVars false
namespace Go.Proofs.YtddiiceaindlhaaGreatDoor.Abs
open Go
def tM (o:Option (List ab)):List ab×(Bool×Unit):=match o with
 | none=>([],false,())
 | some r=>(r,true,())
theorem EO {row many n:Int} {closed:Bool}:n < row→fq row many closed 0 n=n:=fun h=>by
 unfold fq
 rw[if_pos h]
section
variable {s:List ab} (hl:s.length≤1000000) (hs : ∀ c∈s,c.2.1.size≤9223372036854775807∧ao c.1=true)
include hl hs
theorem Hf {e:cD} {closed:Bool} (hk:vo e.1 closed) (hr:1≤e.2.2.2.2.1∧e.2.2.2.2.1≤99) (hm:1≤e.2.2.2.2.2.1∧e.2.2.2.2.2.1≤99) {y:ab} (hy:y∈s) (acc:List ab) (ha:acc.length≤1000000) (q:ai) (k:cD→List ab→Option ((List ab×(Bool×Unit))×Unit)) :
  ((dY y.2.1 e).bind fun z1=>(if(!z1.1.2.1)=true then(some ((([]:(List ab)),false,()),(()))) else((gr q).bind fun z2=>(if(!z2.1.1)=true then(some ((([]:(List ab)),false,()),(()))) else(app acc ([(q,z1.1.1,())]:(List ab)) 32 fun y2=>(k z1.2.1 y2)))))) =
  match qZ (fD e.2.2.2.2.1 e.2.2.2.2.2.1 closed) y.2.1 with
  | none=>some (([],false,()),())
  | some x=>if ao q=true then k e (acc++[(q,x,())]) else some (([],false,()),()):=by
 rw[wP (hs y hy).1 hk (by omega) (by omega),H8]
 simp only[Option.bind_some]
 cases (ry (fD e.2.2.2.2.1 e.2.2.2.2.2.1 closed) y.2.1).2 with
 | false=>rfl
 | true =>
  simp only[Bool.not_true,Bool.false_eq_true,if_false,if_true,nL,Option.bind_some]
  cases ao q with
  | false=>rfl
  | true =>
   simp only[Bool.not_true,Bool.false_eq_true,if_false,if_true]
   exact bG (by simp only[List.length_singleton]; omega)
theorem NI {e:cD} {closed:Bool} (hk:vo e.1 closed) (hr:1≤e.2.2.2.2.1∧e.2.2.2.2.1≤99) (hm:1≤e.2.2.2.2.2.1∧e.2.2.2.2.2.1≤99) {y:ab} (hy:y∈s) (acc:List ab) (ha:acc.length≤1000000) (q:ai) (k:cD→List ab→Option ((List ab×(Bool×Unit))×Unit)) :
  ((ep y.2.1 e.1 e.2.1 e.2.2.1 e.2.2.2.1 e.2.2.2.2.1 e.2.2.2.2.2.1).bind fun z1=>(if(!z1.1.2.1)=true then(some ((([]:(List ab)),false,()),(()))) else((gr q).bind fun z2=>(if(!z2.1.1)=true then(some ((([]:(List ab)),false,()),(()))) else(app acc ([(q,z1.1.1,())]:(List ab)) 32 fun y2=>(k z1.2.1 y2)))))) =
  match qZ (fD e.2.2.2.2.1 e.2.2.2.2.2.1 closed) y.2.1 with
  | none=>some (([],false,()),())
  | some x=>if ao q=true then k e (acc++[(q,x,())]) else some (([],false,()),()):=by
 rw[←Hf hl hs hk hr hm hy acc ha q k,EN (hs y hy).1 hk (by omega) (by omega),wP (hs y hy).1 hk (by omega) (by omega)]
theorem Ag {row many:Int} {closed:Bool} {y:ab} {ys acc:List ab} {R:List ab→Option ((List ab×(Bool×Unit))×Unit)} (hg : ¬d8 row many closed y.1=true)
  (hR : ∀ z,R (acc++[z])=some (tM ((cx row many closed ys).map fun r=>(acc++[z])++r),())) :
  (match qZ (fD row many closed) y.2.1 with
  | none=>some (([],false,()),())
  | some x=>if ao (gn row many closed y.1)=true then R (acc++[(gn row many closed y.1,x,())]) else some (([],false,()),()))=some (tM ((cx row many closed (y :: ys)).map fun r=>acc++r),()):=by
 rw[cx,if_neg hg]
 cases qZ (fD row many closed) y.2.1 with
 | none=>rfl
 | some x =>
  dsimp only
  by_cases h:ao (gn row many closed y.1)=true
  ·rw[if_pos h,if_pos h,hR]
   cases cx row many closed ys with
   | none=>rfl
   | some r=>simp[tM]
  ·rw[if_neg h,if_neg h]
   rfl
theorem Hg {e:cD} {closed:Bool} (hk:vo e.1 closed) (hr:1≤e.2.2.2.2.1∧e.2.2.2.2.1≤99) (hm:1≤e.2.2.2.2.2.1∧e.2.2.2.2.2.1≤99) :
  ∀(ys pre acc:List ab),s=pre++ys→acc.length≤pre.length→cJ s (s.length:Int) (pre.length:Int) e acc=some (tM ((cx e.2.2.2.2.1 e.2.2.2.2.2.1 closed ys).map fun r=>acc++r),())
 | [],pre,acc,h,ha=>by
  rw[yq,aE (ct h),cx]
  simp[tM]
 | y :: ys,pre,acc,h,ha=>by
  have hlen:s.length=pre.length+(ys.length+1):=by rw[h]; simp
  have hy:y∈s:=by rw[h]; simp
  have hb:=bA.1 (hs y hy).2
  have ih:=fun acc' h'=>Hg hk hr hm ys (pre++[y]) acc' (aZ h) h'
  have ih1:=fun z=>ih (acc++[z]) (by simp; omega)
  have tail:=Hf hl hs hk hr hm hy acc (by omega)
  rw[yq,aI (cK h),bU h,bk h (by omega),dE (n:=y.1.2.1+e.2.2.2.2.2.1) (by omega) (by omega),dE (n:=e.2.2.2.2.1+e.2.2.2.2.2.1) (by omega) (by omega),dE (n:=y.1.2.1 - e.2.2.2.2.2.1) (by omega) (by omega)]
  have gR:=fun hg=>Ag hl hs (row:=e.2.2.2.2.1) (many:=e.2.2.2.2.2.1) (closed:=closed) (y:=y) (ys:=ys) (acc:=acc) (R:=fun a=>cJ s (s.length:Int) ((pre++[y]).length:Int) e a) hg ih1
  by_cases c1:y.1.2.1 < e.2.2.2.2.1
  ·have hg : ¬d8 e.2.2.2.2.1 e.2.2.2.2.2.1 closed y.1=true:=by
    unfold d8
    simp only[Bool.and_eq_true,decide_eq_true_eq]
    omega
   have hq:y.1=gn e.2.2.2.2.1 e.2.2.2.2.2.1 closed y.1:=by
    unfold gn
    rw[EO c1]
   rw[if_pos (by rw[decide_eq_true_eq]; exact c1)]
   have t:=tail y.1 (fun e a=>cJ s (s.length:Int) ((pre++[y]).length:Int) e a)
   rw[t]
   have st:=gR hg
   rw[←hq] at st
   exact st
  ·rw[if_neg (by rw[decide_eq_true_eq]; exact c1)]
   rcases hk with⟨hk3,rfl⟩ | ⟨hk4,rfl⟩
   ·have hg : ¬d8 e.2.2.2.2.1 e.2.2.2.2.2.1 false y.1=true:=by simp[d8]
    have hq:(y.1.1,y.1.2.1+e.2.2.2.2.2.1,())=gn e.2.2.2.2.1 e.2.2.2.2.2.1 false y.1:=by
     unfold gn fq
     rw[if_neg c1,if_pos rfl]
    rw[if_pos (by rw[hk3]; rfl)]
    have t:=tail (y.1.1,y.1.2.1+e.2.2.2.2.2.1,()) (fun e a=>cJ s (s.length:Int) ((pre++[y]).length:Int) e a)
    rw[t,hq]
    exact gR hg
   ·rw[if_neg (by rw[hk4]; decide)]
    by_cases c2:y.1.2.1 < e.2.2.2.2.1+e.2.2.2.2.2.1
    ·have hg:d8 e.2.2.2.2.1 e.2.2.2.2.2.1 true y.1=true:=by
      unfold d8
      simp only[Bool.and_eq_true,decide_eq_true_eq,true_and]
      omega
     rw[if_pos (by rw[decide_eq_true_eq]; exact c2),ih acc (by simp; omega),cx,if_pos hg]
    ·have hg : ¬d8 e.2.2.2.2.1 e.2.2.2.2.2.1 true y.1=true:=by
      unfold d8
      simp only[Bool.and_eq_true,decide_eq_true_eq,true_and]
      omega
     have hq:(y.1.1,y.1.2.1 - e.2.2.2.2.2.1,())=gn e.2.2.2.2.1 e.2.2.2.2.2.1 true y.1:=by
      unfold gn fq
      rw[if_neg c1,if_neg (by decide),if_neg c2]
     rw[if_neg (by rw[decide_eq_true_eq]; exact c2)]
     have t:=tail (y.1.1,y.1.2.1 - e.2.2.2.2.2.1,()) (fun e a=>cJ s (s.length:Int) ((pre++[y]).length:Int) e a)
     rw[t,hq]
     exact gR hg
theorem EP {e:cD} {closed:Bool} (hk:vo e.1 closed) (hr:1≤e.2.2.2.2.1∧e.2.2.2.2.1≤99) (hm:1≤e.2.2.2.2.2.1∧e.2.2.2.2.2.1≤99) :
  ∀(ys pre acc:List ab),s=pre++ys→acc.length≤pre.length→uq s (s.length:Int) (pre.length:Int) e.1 e.2.1 e.2.2.1 e.2.2.2.1 e.2.2.2.2.1 e.2.2.2.2.2.1 acc=some (tM ((cx e.2.2.2.2.1 e.2.2.2.2.2.1 closed ys).map fun r=>acc++r),())
 | [],pre,acc,h,ha=>by
  rw[zC,aE (ct h),cx]
  simp[tM]
 | y :: ys,pre,acc,h,ha=>by
  have hlen:s.length=pre.length+(ys.length+1):=by rw[h]; simp
  have hy:y∈s:=by rw[h]; simp
  have hb:=bA.1 (hs y hy).2
  have ih0:=EP hk hr hm ys (pre++[y]) acc (aZ h) (by simp; omega)
  have ih1:=fun z=>Hg hl hs hk hr hm ys (pre++[y]) (acc++[z]) (aZ h) (by simp; omega)
  have tail:=NI hl hs hk hr hm hy acc (by omega)
  rw[zC,aI (cK h),bU h,bk h (by omega),dE (n:=y.1.2.1+e.2.2.2.2.2.1) (by omega) (by omega),dE (n:=e.2.2.2.2.1+e.2.2.2.2.2.1) (by omega) (by omega),dE (n:=y.1.2.1 - e.2.2.2.2.2.1) (by omega) (by omega)]
  have gR:=fun hg=>Ag hl hs (row:=e.2.2.2.2.1) (many:=e.2.2.2.2.2.1) (closed:=closed) (y:=y) (ys:=ys) (acc:=acc) (R:=fun a=>cJ s (s.length:Int) ((pre++[y]).length:Int) e a) hg ih1
  by_cases c1:y.1.2.1 < e.2.2.2.2.1
  ·have hg : ¬d8 e.2.2.2.2.1 e.2.2.2.2.2.1 closed y.1=true:=by
    unfold d8
    simp only[Bool.and_eq_true,decide_eq_true_eq]
    omega
   have hq:y.1=gn e.2.2.2.2.1 e.2.2.2.2.2.1 closed y.1:=by
    unfold gn
    rw[EO c1]
   rw[if_pos (by rw[decide_eq_true_eq]; exact c1)]
   have t:=tail y.1 (fun e a=>cJ s (s.length:Int) ((pre++[y]).length:Int) e a)
   rw[t]
   have st:=gR hg
   rw[←hq] at st
   exact st
  ·rw[if_neg (by rw[decide_eq_true_eq]; exact c1)]
   rcases hk with⟨hk3,rfl⟩ | ⟨hk4,rfl⟩
   ·have hg : ¬d8 e.2.2.2.2.1 e.2.2.2.2.2.1 false y.1=true:=by simp[d8]
    have hq:(y.1.1,y.1.2.1+e.2.2.2.2.2.1,())=gn e.2.2.2.2.1 e.2.2.2.2.2.1 false y.1:=by
     unfold gn fq
     rw[if_neg c1,if_pos rfl]
    rw[if_pos (by rw[hk3]; rfl)]
    have t:=tail (y.1.1,y.1.2.1+e.2.2.2.2.2.1,()) (fun e a=>cJ s (s.length:Int) ((pre++[y]).length:Int) e a)
    rw[t,hq]
    exact gR hg
   ·rw[if_neg (by rw[hk4]; decide)]
    by_cases c2:y.1.2.1 < e.2.2.2.2.1+e.2.2.2.2.2.1
    ·have hg:d8 e.2.2.2.2.1 e.2.2.2.2.2.1 true y.1=true:=by
      unfold d8
      simp only[Bool.and_eq_true,decide_eq_true_eq,true_and]
      omega
     rw[if_pos (by rw[decide_eq_true_eq]; exact c2),ih0,cx,if_pos hg]
    ·have hg : ¬d8 e.2.2.2.2.1 e.2.2.2.2.2.1 true y.1=true:=by
      unfold d8
      simp only[Bool.and_eq_true,decide_eq_true_eq,true_and]
      omega
     have hq:(y.1.1,y.1.2.1 - e.2.2.2.2.2.1,())=gn e.2.2.2.2.1 e.2.2.2.2.2.1 true y.1:=by
      unfold gn fq
      rw[if_neg c1,if_neg (by decide),if_neg c2]
     rw[if_neg (by rw[decide_eq_true_eq]; exact c2)]
     have t:=tail (y.1.1,y.1.2.1 - e.2.2.2.2.2.1,()) (fun e a=>cJ s (s.length:Int) ((pre++[y]).length:Int) e a)
     rw[t,hq]
     exact gR hg
theorem PR {e:cD} {closed:Bool} (hk:vo e.1 closed) (hr:1≤e.2.2.2.2.1∧e.2.2.2.2.1≤99) (hm:1≤e.2.2.2.2.2.1∧e.2.2.2.2.2.1≤99):zq s e=some (tM (cx e.2.2.2.2.1 e.2.2.2.2.2.1 closed s),()):=by
 rw[OL]
 have h:=EP hl hs hk hr hm s [] [] rfl (Nat.le_refl _)
 have e1:(cx e.2.2.2.2.1 e.2.2.2.2.2.1 closed s).map (fun r=>[]++r)=cx e.2.2.2.2.1 e.2.2.2.2.2.1 closed s:=by
  cases cx e.2.2.2.2.1 e.2.2.2.2.2.1 closed s <;> rfl
 rw[e1] at h
 exact h
theorem PS {row many:Int} {closed:Bool} (hr:1≤row∧row≤99) (hm:1≤many∧many≤99) {y:ab} (hy:y∈s) (hne:y.2.1≠eS) (acc:List ab) (ha:acc.length≤1000000) (q:ai) (k:List ab→Option ((List ab×(Bool×Unit))×Unit)) :
  ((lL y.2.1).bind fun z3=>(if z3.1.2.1=true then((wc z3.1.1 row many closed).bind fun z4=>((nE z4.1.1 true).bind fun z5=>(if(ByteArray.toList z5.1.1 == ByteArray.toList (⟨#[]⟩:ByteArray))=true then(some ((([]:(List ab)),false,()),(()))) else((cH q).bind fun z6=>(if(!z6.1.1)=true then(some ((([]:(List ab)),false,()),(()))) else(app acc ([(q,z5.1.1,())]:(List ab)) 32 fun y2=>(k y2))))))) else(if(ByteArray.toList y.2.1 == ByteArray.toList (⟨#[]⟩:ByteArray))=true then(some ((([]:(List ab)),false,()),(()))) else((cH q).bind fun z7=>(if(!z7.1.1)=true then(some ((([]:(List ab)),false,()),(()))) else(app acc ([(q,y.2.1,())]:(List ab)) 32 fun y3=>(k y3))))))) =
  match qZ (fD row many closed) y.2.1 with
  | none=>some (([],false,()),())
  | some x=>if ao q=true then k (acc++[(q,x,())]) else some (([],false,()),()):=by
 have happ : ∀(z:ab) (k:List ab→Option ((List ab×(Bool×Unit))×Unit)),app acc [z] 32 k=k (acc++[z]):=fun z k=>bG (by simp only[List.length_singleton]; omega)
 rw[RF (hs y hy).1,H8]
 simp only[Option.bind_some]
 unfold ry
 cases hf:iz y.2.1 with
 | none =>
  simp only[Option.isSome_none,Bool.false_eq_true,if_false,if_true,ol,hne,decide_false,gG,Option.bind_some,happ]
  cases ao q with
  | false=>rfl
  | true=>rfl
 | some f =>
  have hok:=tH hf (hs y hy).1
  have hok2:=wN (Ki row many closed) hok
  simp only[Option.isSome_some,if_true,Option.getD_some,Re hok (row:=row) (many:=many) (closed:=closed) (by omega) (by omega),Option.bind_some,Af hok2,true_and,ol,gG,happ]
  cases hw:He (f.map (fD row many closed)) with
  | false=>simp
  | true =>
   have hn:ba (61 :: bN (f.map (fD row many closed)))≠eS:=by
    intro h
    have:=qS (b:=[]) h
    cases this
   simp only[if_true,hn,decide_false,Bool.false_eq_true,if_false]
   cases ao q with
   | false=>rfl
   | true=>rfl
theorem Hh {k:Int} {q0:ai} {t0:ByteArray} {a0:aW} {row many:Int} {closed:Bool} (hk:(k == 4)=closed) (hr:1≤row∧row≤99) (hm:1≤many∧many≤99) (hne : ∀ c∈s,c.2.1≠eS) :
  ∀(ys pre acc:List ab),s=pre++ys→acc.length≤pre.length→fG s (pre.length:Int) k q0 t0 a0 row many acc=some (tM ((cx row many closed ys).map fun r=>acc++r),())
 | [],pre,acc,h,ha=>by
  rw[yn,aE (ct h),cx]
  simp[tM]
 | y :: ys,pre,acc,h,ha=>by
  have hlen:s.length=pre.length+(ys.length+1):=by rw[h]; simp
  have hy:y∈s:=by rw[h]; simp
  have hb:=bA.1 (hs y hy).2
  have ih:=fun acc' h'=>Hh (q0:=q0) (t0:=t0) (a0:=a0) hk hr hm hne ys (pre++[y]) acc' (aZ h) h'
  have ih1:=fun z=>ih (acc++[z]) (by simp; omega)
  have tail:=PS hl hs hr hm (closed:=closed) hy (hne y hy) acc (by omega) (gn row many closed y.1) (fun a=>fG s ((pre++[y]).length:Int) k q0 t0 a0 row many a)
  have gR:=fun hg=>Ag hl hs (row:=row) (many:=many) (closed:=closed) (y:=y) (ys:=ys) (acc:=acc) (R:=fun a=>fG s ((pre++[y]).length:Int) k q0 t0 a0 row many a) hg ih1
  have e1:eT y.1.2.1 row many closed 0=some ((fq row many closed 0 y.1.2.1,()),()):=uM (by omega) (by omega) (by omega)
  rw[yn,aI (cK h),bU h,bk h (by omega),hk,e1,eJ,dE (n:=row+many) (by omega) (by omega),dE (n:=row+many - 1) (by omega) (by omega)]
  simp only[Option.bind_some]
  have hq:(y.1.1,fq row many closed 0 y.1.2.1,())=gn row many closed y.1:=rfl
  rw[hq]
  have gone:d8 row many closed y.1=(closed && bz y.1.2.1 row (row+many - 1)):=by
   unfold d8 bz
   congr 1
   rw[Bool.eq_iff_iff]
   simp only[Bool.and_eq_true,decide_eq_true_eq]
   omega
  cases closed with
  | false =>
   rw[if_neg (by decide)]
   exact tail.trans (gR (by simp[d8]))
  | true =>
   rw[if_pos rfl]
   by_cases c:bz y.1.2.1 row (row+many - 1)=true
   ·rw[if_pos c,ih acc (by simp; omega),cx,if_pos (by rw[gone,c]; rfl)]
   ·rw[if_neg c]
    exact tail.trans (gR (by rw[gone]; simpa using c))
theorem NJ {e:cD} {closed:Bool} (hk:vo e.1 closed) (hne : ∀ c∈s,c.2.1≠eS):wd s e=if bz e.2.2.2.2.1 1 99=true∧bz e.2.2.2.2.2.1 1 99=true then some (tM (cx e.2.2.2.2.1 e.2.2.2.2.2.1 closed s),()) else some (([],false,()),()):=by
 rw[MY,MV,eJ,eJ]
 simp only[Option.bind_some]
 have hk':(e.1 == 4)=closed:=by
  rcases hk with⟨h,rfl⟩ | ⟨h,rfl⟩ <;> rw[h] <;> rfl
 cases h1:bz e.2.2.2.2.1 1 99 with
 | false=>simp
 | true =>
  cases h2:bz e.2.2.2.2.2.1 1 99 with
  | false=>simp
  | true =>
   have b1:=bd.1 h1
   have b2:=bd.1 h2
   simp only[if_true,Option.bind_some,Bool.not_true,Bool.false_eq_true,if_false,and_self]
   have h:=Hh hl hs (q0:=e.2.1) (t0:=e.2.2.1) (a0:=e.2.2.2.1) hk' b1 b2 hne s [] [] rfl (Nat.le_refl _)
   have e1:(cx e.2.2.2.2.1 e.2.2.2.2.2.1 closed s).map (fun r=>[]++r)=cx e.2.2.2.2.1 e.2.2.2.2.2.1 closed s:=by
    cases cx e.2.2.2.2.1 e.2.2.2.2.2.1 closed s <;> rfl
   rw[e1] at h
   exact h
end
end Go.Proofs.YtddiiceaindlhaaGreatDoor.Abs
set_option linter.unusedVariables false
set_option linter.unusedSimpArgs false
set_option linter.unusedSectionVars false
namespace Go.Proofs.YtddiiceaindlhaaGreatDoor.Abs
open Go
theorem Kp (c:ab) (a:aW):rM c a=some ((dr a c,()),(a,())):=by
 rw[HN,mG]
 rfl
theorem SG (c:ab) (a:aW):zr c a.1 a.2.1=some ((dr a c,()),(a,())):=by
 rw[Js,mG]
 rfl
theorem SH {s:List ab} {a:aW} (hl:s.length≤1000000000) : ∀(ys pre:List ab),s=pre++ys→ce s (s.length:Int) (pre.length:Int) a=some ((jh (dr a) ys pre.length,()),(a,())) :=
 xT (p:=dr a) (d:=ag.dflt) (F:=fun j=>some ((j,()),(a,()))) (s:=s) (P:=fun j=>ce s (s.length:Int) j a) (by omega) fun j=>by
  rw[kv]
  simp only[Kp,Option.bind_some]
theorem SI {s:List ab} {a:aW} (hl:s.length≤1000000000):eY s a.1 a.2.1=some ((jh (dr a) s 0,()),(a,())):=by
 rw[mf,kG]
 cases s with
 | nil=>rfl
 | cons c l =>
  have h2:=SH (a:=a) hl l [c] rfl
  rw[aI (by rw[List.length_cons]; omega)]
  have hix : ∀ {β:Type} {F:ab→Option β},ix (c :: l) 0 ag.dflt F=F c:=fun {β F}=>bU (pre:=[]) (ys:=l) rfl
  rw[hix,SG,Option.bind_some]
  dsimp only
  unfold jh
  by_cases h:dr a c=true
  ·rw[if_pos h,if_pos h]
   rfl
  ·rw[if_neg h,if_neg h]
   exact h2
theorem SJ {s:List ab} {a:aW} (hl:s.length≤1000000000):cO s a.1 a.2.1=some ((ca a s,()),(a,())):=by
 rw[kE,SI hl,Option.bind_some]
 dsimp only
 have hc:ca a s=s.filter fun c => !dr a c:=rfl
 rw[hc]
 by_cases h:jh (dr a) s 0 = -1
 ·rw[h,if_pos (by rfl)]
  have:=A2 h
  have hf:(s.filter fun c => !dr a c)=s:=List.filter_eq_self.2 fun c hc=>by
   have:=this c hc
   simpa using this
  rw[hf]
 ·obtain⟨pre,x,ys,h1,h2,h3,h4⟩:=A3 h
  rw[if_neg (by simpa using h),h4,Nat.zero_add]
  have hlen:pre.length+1+ys.length≤1000000000:=by rw[h1] at hl; simp at hl; omega
  have hd:=tG (p:=dr a) (d:=ag.dflt) (P:=fun i j xs=>bV i j xs a) (F:=fun l=>some ((l,()),(a,()))) (fun i j xs=>by
   rw[jF]
   simp only[Kp,Option.bind_some]) ys pre [x] (by simp only[List.length_singleton]; omega) (by simp)
  rw[wr (by omega) (by omega)]
  have e1:pre++[x]++ys=s:=by rw[h1]; simp
  have e2:((pre.length+[x].length:Nat):Int)=(pre.length:Int)+1:=by simp
  rw[e1,e2] at hd
  refine hd.trans ?_
  have e3:(s.filter fun c => !dr a c)=pre++ys.filter fun c => !dr a c:=by
   rw[h1,List.filter_append,List.filter_cons_of_neg (by simp[h2])]
   congr 1
   rw[List.filter_eq_self]
   intro c hc
   simpa using h3 c hc
  rw[e3]
theorem NL {s:List ab} (hl:s.length≤1000000000):eI s=some ((),(db (α:=ag.den) Pm s,())):=by
 rw[lW]
 unfold dI
 simp only[gQ?,dite_true,Option.bind_some,if_true]
 exact if_pos (by omega)
theorem Ah : ∀ {q s:List ab},(∀ c∈q,c.2.1≠eS)→dN q→(∀ c∈s,∀ d∈q,c.1≠d.1)→(gB s q).Perm (s++q)
 | [],s,_,_,_=>by simp[gB]
 | d :: q,s,hne,hq,hd=>by
  have hq':=List.pairwise_cons.1 hq
  have h1:(cU s d.1 d.2.1).Perm (s++[d]):=by
   unfold cU
   rw[if_neg (hne d List.mem_cons_self)]
   have:=tF (r:=d.1) (x:=d.2.1) s
   rwa[Pj (fun c hc=>hd c hc d List.mem_cons_self)] at this
  have h2:=Ah (q:=q) (s:=cU s d.1 d.2.1) (fun c hc=>hne c (List.mem_cons_of_mem _ hc)) hq'.2 (fun c hc e he=>by
   rcases List.mem_append.1 (h1.mem_iff.1 hc) with h | h
   ·exact hd c h e (List.mem_cons_of_mem _ he)
   ·rw[List.mem_singleton.1 h]
    exact tE (hq'.1 e he))
  have h3:(cU s d.1 d.2.1++q).Perm (s++[d]++q):=h1.append_right q
  have:=h2.trans h3
  have e:gB s (d :: q)=gB (cU s d.1 d.2.1) q:=rfl
  rw[e]
  simpa using this
theorem Rg {s q:List ab} (hs:dN s) (hne : ∀ c∈q,c.2.1≠eS) (hq:dN q) (hd : ∀ c∈s,∀ d∈q,c.1≠d.1):db (α:=ag.den) Pm (s++q)=gB s q :=
 uU ((mn Nr _).trans (Ah hne hq hd).symm) (q8 Nr _) (Kl hs)
section
variable {s:List ab} (hl:s.length≤1000000) (hs : ∀ c∈s,c.2.1.size≤9223372036854775807∧ao c.1=true)
include hl hs
theorem Hi {k:Int} {q0:ai} {t0:ByteArray} {a:aW} {m n c r:Int} (hc : -1000≤c∧c≤1000) (hr : -1000≤r∧r≤1000) :
  ∀(ys pre acc:List ab),s=pre++ys→acc.length+ys.length≤2000000→lP s (s.length:Int) (pre.length:Int) k q0 t0 a m n c r acc=(match gp a c r ys with
   | none=>some (([],false,()),())
   | some q=>(zt (acc++q)).bind fun z3=>some ((z3.1.1,(decide ((List.length (acc++q):Int)≤120)),()),()))
 | [],pre,acc,h,ha=>by
  rw[yl,aE (ct h),gp]
  simp
 | y :: ys,pre,acc,h,ha=>by
  have hlen:s.length=pre.length+(ys.length+1):=by rw[h]; simp
  have hy:y∈s:=by rw[h]; simp
  have hb:=bA.1 (hs y hy).2
  have ih:=fun acc' h'=>Hi (k:=k) (q0:=q0) (t0:=t0) (a:=a) (m:=m) (n:=n) hc hr ys (pre++[y]) acc' (aZ h) h'
  rw[yl,aI (cK h),bU h,bk h (by omega),mG,gp]
  simp only[Option.bind_some]
  by_cases hi:rk a y.1=true
  ·have hi':(bz y.1.1 a.1.1 a.2.1.1 && bz y.1.2.1 a.1.2.1 a.2.1.2.1)=true:=hi
   rw[hi',if_neg (by decide),if_pos hi,HU (hs y hy).1 hc hr,H8]
   simp only[Option.bind_some]
   cases (ry (j0 c r) y.2.1).2 with
   | false=>rfl
   | true =>
    simp only[Bool.not_true,Bool.false_eq_true,if_false,if_true]
    rw[dE (n:=y.1.1+c) (by omega) (by omega),dE (n:=y.1.2.1+r) (by omega) (by omega),bG (by simp only[List.length_cons,List.length_nil] at ha ⊢; omega),ih _ (by simp only[List.length_append,List.length_cons,List.length_nil] at ha ⊢; omega)]
    cases gp a c r ys with
    | none=>rfl
    | some q =>
     simp only[Option.map_some,List.append_assoc,List.singleton_append]
     rfl
  ·have hi0:rk a y.1=false:=by simpa using hi
   have hi':(bz y.1.1 a.1.1 a.2.1.1 && bz y.1.2.1 a.1.2.1 a.2.1.2.1)=false:=hi0
   rw[hi',if_pos (by decide),if_neg hi,ih acc (by simp only[List.length_cons] at ha; omega)]
theorem EQ {k:Int} {q0:ai} {t0:ByteArray} {a to:aW} {m n c r:Int} :
  ∀(ys pre acc:List ab),s=pre++ys→acc.length≤pre.length→lQ s c r (pre.length:Int) k to.1 t0 a m n to.2.1.1 to.2.1.2.1 acc=iH s c r 0 k to.1 t0 a m n (acc++ca to ys)
 | [],pre,acc,h,ha=>by
  rw[yo,aE (ct h)]
  simp[ca]
 | y :: ys,pre,acc,h,ha=>by
  have hlen:s.length=pre.length+(ys.length+1):=by rw[h]; simp
  have ih:=fun acc' h'=>EQ (k:=k) (q0:=q0) (t0:=t0) (a:=a) (to:=to) (m:=m) (n:=n) (c:=c) (r:=r) ys (pre++[y]) acc' (aZ h) h'
  have hw:k7 y.1 (to.1,(to.2.1.1,to.2.1.2.1,()),())=some ((dr to y,()),()):=by
   rw[tf,eJ,eJ]
   simp only[Option.bind_some]
   unfold dr
   cases bz y.1.1 to.1.1 to.2.1.1 <;> simp
  rw[yo,aI (cK h),bU h,bk h (by omega),hw]
  simp only[Option.bind_some]
  have hcl:ca to (y :: ys)=if dr to y=true then ca to ys else y :: ca to ys:=by
   unfold ca
   rw[List.filter_cons]
   unfold dr
   cases bz y.1.1 to.1.1 to.2.1.1 && bz y.1.2.1 to.1.2.1 to.2.1.2.1 <;> rfl
  rw[hcl]
  by_cases hi:dr to y=true
  ·rw[hi,if_neg (by decide),if_pos rfl,ih acc (by simp; omega)]
  ·have hi':dr to y=false:=by simpa using hi
   rw[hi',if_pos (by decide),bU h,bG (by simp only[List.length_singleton]; omega),ih _ (by simp; omega)]
   simp
theorem ER {k:Int} {q0:ai} {t0:ByteArray} {a:aW} {m n c r:Int} (hc : -52≤c∧c≤52) (hr : -99≤r∧r≤99) (hne : ∀ c∈s,c.2.1≠eS) :
  ∀(ys pre acc:List ab),s=pre++ys→acc.length≤pre.length+500000→(pre.length:Nat)≤400000→s.length≤400000→iH s c r (pre.length:Int) k q0 t0 a m n acc=(match gp a c r ys with
   | none=>some (([],false,()),())
   | some q=>some ((gB acc q,(decide ((List.length (gB acc q):Int)≤120)),()),()))
 | [],pre,acc,h,ha,_,_=>by
  rw[wx,aE (ct h),gp]
  rfl
 | y :: ys,pre,acc,h,ha,hp,hsl=>by
  have hlen:s.length=pre.length+(ys.length+1):=by rw[h]; simp
  have hy:y∈s:=by rw[h]; simp
  have hb:=bA.1 (hs y hy).2
  have ih:=fun acc' h'=>ER (k:=k) (q0:=q0) (t0:=t0) (a:=a) (m:=m) (n:=n) hc hr hne ys (pre++[y]) acc' (aZ h) h' (by simp; omega) hsl
  have hw:k7 y.1 a=some ((rk a y.1,()),()):=by
   rw[tf,eJ,eJ]
   simp only[Option.bind_some]
   unfold rk
   cases bz y.1.1 a.1.1 a.2.1.1 <;> simp
  rw[wx,aI (cK h),bU h,bk h (by omega),hw,gp]
  simp only[Option.bind_some]
  by_cases hi:rk a y.1=true
  ·rw[hi,if_neg (by decide),if_pos rfl,bU h,RF (hs y hy).1,H8]
   simp only[Option.bind_some]
   have hset : ∀ x,v8 acc (tI c r y.1) x=some ((cU acc (tI c r y.1) x,()),()):=fun x=>G2 (by omega)
   have hmv:(y.1.1+c,y.1.2.1+r,())=tI c r y.1:=rfl
   have aR : ∀ x:ByteArray,(match gp a c r ys with
     | none=>some ((([]:List ab),false,()),())
     | some q=>some ((gB (cU acc (tI c r y.1) x) q,(decide ((List.length (gB (cU acc (tI c r y.1) x) q):Int)≤120)),()),()))=(match (gp a c r ys).map fun q=>(tI c r y.1,x,()) :: q with
     | none=>some ((([]:List ab),false,()),())
     | some q=>some ((gB acc q,(decide ((List.length (gB acc q):Int)≤120)),()),())):=fun x=>by
    cases gp a c r ys with
    | none=>rfl
    | some q=>rfl
   have hsl' : ∀ x,(cU acc (tI c r y.1) x).length≤(pre++[y]).length+500000:=fun x=>by
    have:=Sj acc (tI c r y.1) x
    simp
    omega
   unfold ry
   cases hf:iz y.2.1 with
   | none =>
    simp only[Option.isSome_none,Bool.false_eq_true,if_false,if_true,ol,hne y hy,decide_false]
    rw[bU h,bU h,dE (n:=y.1.1+c) (by omega) (by omega),dE (n:=y.1.2.1+r) (by omega) (by omega),hmv,hset]
    simp only[Option.bind_some]
    rw[ih _ (hsl' _)]
    exact aR _
   | some f =>
    have hok:=tH hf (hs y hy).1
    have hok2:=wN (PH c r) hok
    simp only[Option.isSome_some,if_true,Option.getD_some]
    rw[Lf hok,if_pos ⟨bd.2 hc,bd.2 hr⟩]
    simp only[Option.bind_some,Af hok2,true_and,ol]
    cases hw:He (f.map (j0 c r)) with
    | false=>simp
    | true =>
     have hn:ba (61 :: bN (f.map (j0 c r)))≠eS:=by
      intro h
      have:=qS (b:=[]) h
      cases this
     simp only[if_true,hn,decide_false,Bool.false_eq_true,if_false]
     rw[bU h,bU h,dE (n:=y.1.1+c) (by omega) (by omega),dE (n:=y.1.2.1+r) (by omega) (by omega),hmv,hset]
     simp only[Option.bind_some]
     rw[ih _ (hsl' _)]
     exact aR _
  ·have hi':rk a y.1=false:=by simpa using hi
   rw[hi',if_pos (by decide),if_neg (by decide),ih acc (by simp; omega)]
end
theorem uO (a:aW):cf a=ji a:=by
 unfold cf ji
 cases ao a.1 <;> cases ao a.2.1 <;> simp
section
variable {s:List ab} (hs:aH s=true)
include hs
theorem ch:s.length≤120∧(∀ c∈s,c.2.1.size≤9223372036854775807∧ao c.1=true)∧(∀ c∈s,c.2.1≠eS)∧dN s:=by
 have h:=dA.1 hs
 exact⟨gK hs,fun c hc=>⟨Nat.le_trans (pd hs c hc) (by decide),(h.2.1 c hc).1⟩,Tv (Ey hs),h.1⟩
theorem NM (e:cD) : ∃ x,AI s e=some ((x,(tK s e).2,()),())∧((tK s e).2=true→x=(tK s e).1):=by
 obtain⟨hl,hs1,hne,hsrt⟩:=ch hs
 rw[MU,lZ,lZ,uO]
 simp only[Option.bind_some]
 unfold tK
 by_cases k1:ji e.2.2.2.1=true
 ·by_cases k2:ao e.2.1=true
  ·have b1:=Km.1 k1
   have b2:=bA.1 b1.1
   have b3:=bA.1 b1.2.1
   have b4:=bA.1 k2
   have w1:=dE (n:=e.2.1.1 - e.2.2.2.1.1.1) (by omega) (by omega)
   have w2:=dE (n:=e.2.1.2.1 - e.2.2.2.1.1.2.1) (by omega) (by omega)
   have w3:=dE (n:=e.2.2.2.1.2.1.1+(e.2.1.1 - e.2.2.2.1.1.1)) (by omega) (by omega)
   have w4:=dE (n:=e.2.2.2.1.2.1.2.1+(e.2.1.2.1 - e.2.2.2.1.1.2.1)) (by omega) (by omega)
   rw[k1,w1,w2,w3,w4]
   simp only[Bool.not_true,Bool.false_eq_true,if_false]
   have hto:(e.2.1,(e.2.2.2.1.2.1.1+(e.2.1.1 - e.2.2.2.1.1.1),e.2.2.2.1.2.1.2.1+(e.2.1.2.1 - e.2.2.2.1.1.2.1),()),())=fg e:=rfl
   rw[hto]
   have hta:cf (fg e)=ao (fg e).2.1:=by
    unfold cf
    have h1:(fg e).1=e.2.1:=rfl
    rw[h1,k2]
    have h2:e.2.1.1≤(fg e).2.1.1:=by show e.2.1.1≤e.2.2.2.1.2.1.1+(e.2.1.1 - e.2.2.2.1.1.1); omega
    have h3:e.2.1.2.1≤(fg e).2.1.2.1:=by show e.2.1.2.1≤e.2.2.2.1.2.1.2.1+(e.2.1.2.1 - e.2.2.2.1.1.2.1); omega
    simp[h2,h3]
   rw[hta]
   by_cases k3:ao (fg e).2.1=true
   ·rw[k3,if_neg (by decide),if_pos (by simp[k2]),qr (by omega)]
    simp only[Option.bind_some]
    have hd:=SJ (s:=s) (a:=fg e) (by omega)
    have hd':cO s e.2.1 (e.2.2.2.1.2.1.1+(e.2.1.1 - e.2.2.2.1.1.1),e.2.2.2.1.2.1.2.1+(e.2.1.2.1 - e.2.2.2.1.1.2.1),())=some ((ca (fg e) s,()),(fg e,())):=hd
    rw[hd']
    simp only[Option.bind_some]
    have hcl:(ca (fg e) s).length≤s.length:=List.length_filter_le _ _
    have hlp:=Hi (by omega) hs1 (k:=e.1) (q0:=e.2.1) (t0:=e.2.2.1) (a:=e.2.2.2.1) (m:=e.2.2.2.2.1) (n:=e.2.2.2.2.2.1) (c:=e.2.1.1 - e.2.2.2.1.1.1) (r:=e.2.1.2.1 - e.2.2.2.1.1.2.1) (by omega) (by omega) s [] (ca (fg e) s) rfl (by omega)
    have hlp':lP s (s.length:Int) 0 e.1 e.2.1 e.2.2.1 e.2.2.2.1 e.2.2.2.2.1 e.2.2.2.2.2.1 (e.2.1.1 - e.2.2.2.1.1.1) (e.2.1.2.1 - e.2.2.2.1.1.2.1) (ca (fg e) s)=_:=hlp
    rw[hlp']
    cases hq:gp e.2.2.2.1 (e.2.1.1 - e.2.2.2.1.1.1) (e.2.1.2.1 - e.2.2.2.1.1.2.1) s with
    | none=>exact⟨_,rfl,fun h=>by cases h⟩
    | some q =>
     have hm:=tJ hq
     have hqs:=CP hsrt hq
     have hqne : ∀ c∈q,c.2.1≠eS:=fun c hc=>by
      obtain⟨x,hx,_,_,g3⟩:=hm.2 c hc
      exact CF (FX ((dA.1 hs).2.1 x hx).2 g3)
     have hdis : ∀ c∈ca (fg e) s,∀ d∈q,c.1≠d.1:=fun c hc d hd he=>by
      obtain⟨x,hx,g1,g2,_⟩:=hm.2 d hd
      have h1:=(List.mem_filter.1 hc).2
      have h2:dr (fg e) c=true:=by
       unfold rk at g1
       rw[Bool.and_eq_true,bd,bd] at g1
       unfold dr fg
       rw[he,g2]
       unfold tI
       rw[Bool.and_eq_true,bd,bd]
       dsimp only
       omega
      have h3:(!(dr (fg e) c))=true:=h1
      rw[h2] at h3
      cases h3
     dsimp only
     rw[Ju,NL (by simp; omega)]
     simp only[Option.bind_some]
     have hsrtc:dN (ca (fg e) s):=List.Pairwise.filter _ hsrt
     have hso:=Rg hsrtc hqne hqs hdis
     have hln:=(Ah hqne hqs hdis).length_eq
     rw[←hln]
     by_cases h120:(gB (ca (fg e) s) q).length≤120
     ·rw[if_pos h120,show decide (((gB (ca (fg e) s) q).length:Int)≤120)=true by rw[decide_eq_true_eq]; omega]
      exact⟨_,rfl,fun _=>hso⟩
     ·rw[if_neg h120,show decide (((gB (ca (fg e) s) q).length:Int)≤120)=false by rw[decide_eq_false_iff_not]; omega]
      exact⟨_,rfl,fun h=>by cases h⟩
   ·have k3':ao (fg e).2.1=false:=by simpa using k3
    rw[k3',if_pos (by decide),if_neg (fun h=>by cases h.2.2)]
    exact⟨_,rfl,fun h=>by cases h⟩
  ·have k2':ao e.2.1=false:=by simpa using k2
   have : ∀ z:ai,cf (e.2.1,z,())=false:=fun z=>by
    unfold cf
    rw[k2']
    rfl
   rw[k1,this,if_neg (by decide),if_pos (by decide),if_neg (fun h=>k2 h.2.1)]
   exact⟨_,rfl,fun h=>by cases h⟩
 ·have k1':ji e.2.2.2.1=false:=by simpa using k1
  rw[k1',if_pos (by decide),if_neg (fun h=>by cases h.1)]
  exact⟨_,rfl,fun h=>by cases h⟩
theorem NN (e:cD) : ∃ x,AJ s e=some ((x,(tK s e).2,()),())∧((tK s e).2=true→x=(tK s e).1):=by
 obtain⟨hl,hs1,hne,hsrt⟩:=ch hs
 rw[MZ,xE,gG,gG,uO]
 simp only[Option.bind_some]
 unfold tK
 by_cases k1:ji e.2.2.2.1=true
 ·by_cases k2:ao e.2.1=true
  ·have b1:=Km.1 k1
   have b2:=bA.1 b1.1
   have b3:=bA.1 b1.2.1
   have b4:=bA.1 k2
   have w1:=dE (n:=e.2.1.1 - e.2.2.2.1.1.1) (by omega) (by omega)
   have w2:=dE (n:=e.2.1.2.1 - e.2.2.2.1.1.2.1) (by omega) (by omega)
   have w3:=dE (n:=e.2.2.2.1.2.1.1+(e.2.1.1 - e.2.2.2.1.1.1)) (by omega) (by omega)
   have w4:=dE (n:=e.2.2.2.1.2.1.2.1+(e.2.1.2.1 - e.2.2.2.1.1.2.1)) (by omega) (by omega)
   rw[k1,k2,w1,w2,w3,w4]
   simp only[Bool.not_true,Bool.false_eq_true,if_false]
   have hto:(e.2.2.2.1.2.1.1+(e.2.1.1 - e.2.2.2.1.1.1),e.2.2.2.1.2.1.2.1+(e.2.1.2.1 - e.2.2.2.1.1.2.1),())=(fg e).2.1:=rfl
   rw[hto]
   by_cases k3:ao (fg e).2.1=true
   ·rw[k3,if_neg (by decide),if_pos (by simp)]
    have hcl:(ca (fg e) s).length≤s.length:=List.length_filter_le _ _
    have h1:=EQ (by omega) hs1 (k:=e.1) (q0:=e.2.1) (t0:=e.2.2.1) (a:=e.2.2.2.1) (to:=fg e) (m:=e.2.2.2.2.1) (n:=e.2.2.2.2.2.1) (c:=e.2.1.1 - e.2.2.2.1.1.1) (r:=e.2.1.2.1 - e.2.2.2.1.1.2.1) s [] [] rfl (Nat.le_refl _)
    have h2:=ER (by omega) hs1 (k:=e.1) (q0:=e.2.1) (t0:=e.2.2.1) (a:=e.2.2.2.1) (m:=e.2.2.2.2.1) (n:=e.2.2.2.2.2.1) (c:=e.2.1.1 - e.2.2.2.1.1.1) (r:=e.2.1.2.1 - e.2.2.2.1.1.2.1) (by omega) (by omega) hne s [] (ca (fg e) s) rfl (by omega) (by simp) (by omega)
    have h3:lQ s (e.2.1.1 - e.2.2.2.1.1.1) (e.2.1.2.1 - e.2.2.2.1.1.2.1) 0 e.1 e.2.1 e.2.2.1 e.2.2.2.1 e.2.2.2.2.1 e.2.2.2.2.2.1 (e.2.2.2.1.2.1.1+(e.2.1.1 - e.2.2.2.1.1.1)) (e.2.2.2.1.2.1.2.1+(e.2.1.2.1 - e.2.2.2.1.1.2.1)) []=_:=h1.trans h2
    rw[h3]
    cases hq:gp e.2.2.2.1 (e.2.1.1 - e.2.2.2.1.1.1) (e.2.1.2.1 - e.2.2.2.1.1.2.1) s with
    | none=>exact⟨_,rfl,fun h=>by cases h⟩
    | some q =>
     dsimp only
     by_cases h120:(gB (ca (fg e) s) q).length≤120
     ·rw[if_pos h120]
      refine⟨gB (ca (fg e) s) q,?_,fun _=>rfl⟩
      rw[show decide (((gB (ca (fg e) s) q).length:Int)≤120)=true by rw[decide_eq_true_eq]; omega]
     ·rw[if_neg h120]
      refine⟨gB (ca (fg e) s) q,?_,fun h=>by cases h⟩
      rw[show decide (((gB (ca (fg e) s) q).length:Int)≤120)=false by rw[decide_eq_false_iff_not]; omega]
   ·have k3':ao (fg e).2.1=false:=by simpa using k3
    rw[k3',if_pos (by decide),if_neg (fun h=>by cases h.2.2)]
    exact⟨_,rfl,fun h=>by cases h⟩
  ·have k2':ao e.2.1=false:=by simpa using k2
   rw[k1,k2',if_neg (by decide),if_pos (by decide),if_neg (fun h=>by cases h.2.1)]
   exact⟨_,rfl,fun h=>by cases h⟩
 ·have k1':ji e.2.2.2.1=false:=by simpa using k1
  rw[k1',if_pos (by decide),if_neg (fun h=>by cases h.1)]
  exact⟨_,rfl,fun h=>by cases h⟩
end
end Go.Proofs.YtddiiceaindlhaaGreatDoor.Abs
set_option linter.unusedVariables false
set_option linter.unusedSimpArgs false
set_option linter.unusedSectionVars false
namespace Go.Proofs.YtddiiceaindlhaaGreatDoor.Abs
open Go
theorem T7 {s:List ab} {q:ai} {x:ByteArray} (h:(qX s q x).2=false):qX s q x=([],false):=by
 unfold qX at h ⊢
 split
 ·rename_i k
  rw[if_pos k] at h
  cases h
 ·rfl
theorem T8 {s:List ab} {e:cD} (h:(tK s e).2=false):tK s e=([],false):=by
 unfold tK at h ⊢
 split
 ·rename_i k
  rw[if_pos k] at h
  cases hm:gp e.2.2.2.1 (e.2.1.1 - e.2.2.2.1.1.1) (e.2.1.2.1 - e.2.2.2.1.1.2.1) s with
  | none=>rfl
  | some q =>
   rw[hm] at h
   dsimp only at h ⊢
   split
   ·rename_i k2
    rw[if_pos k2] at h
    cases h
   ·rfl
 ·rfl
theorem T9 {s:List ab} {e:cD} (h:(Ae s e).2=false):Ae s e=([],false):=by
 unfold Ae at h ⊢
 split
 ·rename_i k
  rw[if_pos k] at h
  cases hm:cx e.2.2.2.2.1 e.2.2.2.2.2.1 (decide (e.1=4)) s with
  | none=>rfl
  | some q=>rw[hm] at h; cases h
 ·rfl
theorem NO {s:List ab} {e:cD} (h:(gb s e).2=false):gb s e=([],false):=by
 unfold gb at h ⊢
 split
 ·rename_i k
  rw[if_pos k] at h
  exact T7 h
 ·rename_i k
  rw[if_neg k] at h
  split
  ·rename_i k2
   rw[if_pos k2] at h
   split
   ·rename_i k3
    rw[if_pos k3] at h
    cases h
   ·rfl
  ·rename_i k2
   rw[if_neg k2] at h
   split
   ·rename_i k3
    rw[if_pos k3] at h
    exact T9 h
   ·rename_i k3
    rw[if_neg k3] at h
    split
    ·rename_i k4
     rw[if_pos k4] at h
     exact T8 h
    ·rfl
theorem Kq (n:Int):qD n=some ((bz n 1 99,()),()):=by
 rw[OK,jG]
 rfl
section
variable {s:List ab} (hs:aH s=true)
include hs
theorem PT {r:ai} {x:ByteArray} (hx:x.size≤9223372036854775807):Ja s r x=some (((qX s r x).1,(qX s r x).2,()),()):=by
 obtain⟨hl,hs1,hne,hsrt⟩:=ch hs
 rw[OJ,(qW hx).1,mE (fun c hc=>(hs1 c hc).1) (by omega),nL]
 simp only[Option.bind_some]
 unfold qX
 rw[hs]
 cases h2:ao r with
 | false=>simp
 | true =>
  cases h3:(eL x).2 with
  | false=>simp
  | true =>
   rw[Lb hsrt (by omega)]
   simp only[Option.bind_some,Bool.not_true,Bool.false_eq_true,if_false]
   by_cases h4:(cU s r (eL x).1).length≤120
   ·rw[aE (by omega),if_pos (by simp[h4])]
   ·rw[aI (by omega),if_neg (by simp[h4])]
theorem PU {e:cD} (hk:e.1=3∨e.1=4):((qD e.2.2.2.2.1).bind fun z5=>(if z5.1.1=true then((qD e.2.2.2.2.2.1).bind fun z6=>(if z6.1.1=true then((zq s e).bind fun z7=>(some (z7.1,(())))) else(some ((([]:(List ab)),false,()),(()))))) else(some ((([]:(List ab)),false,()),(())))))=some (((Ae s e).1,(Ae s e).2,()),()):=by
 obtain⟨hl,hs1,hne,hsrt⟩:=ch hs
 have hK:vo e.1 (decide (e.1=4)):=by
  rcases hk with h | h
  ·exact .inl ⟨h,by rw[h]; rfl⟩
  ·exact .inr ⟨h,by rw[h]; rfl⟩
 rw[Kq,Kq]
 simp only[Option.bind_some]
 unfold Ae
 cases h1:bz e.2.2.2.2.1 1 99 with
 | false=>simp
 | true =>
  cases h2:bz e.2.2.2.2.2.1 1 99 with
  | false=>simp
  | true =>
   rw[PR (by omega) hs1 hK (bd.1 h1) (bd.1 h2)]
   simp only[if_true,Option.bind_some,and_self]
   cases cx e.2.2.2.2.1 e.2.2.2.2.2.1 (decide (e.1=4)) s <;> rfl
theorem PV {e:cD} (hk:e.1=3∨e.1=4):wd s e=some (((Ae s e).1,(Ae s e).2,()),()):=by
 obtain⟨hl,hs1,hne,hsrt⟩:=ch hs
 have hK:vo e.1 (decide (e.1=4)):=by
  rcases hk with h | h
  ·exact .inl ⟨h,by rw[h]; rfl⟩
  ·exact .inr ⟨h,by rw[h]; rfl⟩
 rw[NJ (by omega) hs1 hK hne]
 unfold Ae
 split
 ·cases cx e.2.2.2.2.1 e.2.2.2.2.2.1 (decide (e.1=4)) s <;> rfl
 ·rfl
theorem B2 {e:cD} (hx:e.2.2.1.size≤9223372036854775807) : ∃ x,xt s e=some ((x,(gb s e).2,()),())∧((gb s e).2=true→x=(gb s e).1):=by
 obtain⟨hl,hs1,hne,hsrt⟩:=ch hs
 rw[K0]
 unfold gb
 by_cases k1:e.1=1
 ·rw[if_pos (by rw[k1]; rfl),if_pos k1,PT hs hx]
  exact⟨_,rfl,fun _=>rfl⟩
 ·rw[if_neg (by rw[beq_iff_eq]; exact k1),if_neg k1]
  by_cases k2:e.1=2
  ·rw[if_pos (by rw[k2]; rfl),if_pos k2,qr (by omega)]
   simp only[Option.bind_some]
   rw[SF (by omega)]
   simp only[Option.bind_some,lZ,uO]
   cases ji e.2.2.2.1 with
   | true=>exact⟨_,rfl,fun _=>rfl⟩
   | false=>exact⟨_,rfl,fun h=>by cases h⟩
  ·rw[if_neg (by rw[beq_iff_eq]; exact k2),if_neg k2]
   by_cases k3:e.1=3
   ·rw[if_pos (by rw[k3]; rfl),if_pos (by rw[k3]; rfl),if_pos (.inl k3),PU hs (.inl k3)]
    exact⟨_,rfl,fun _=>rfl⟩
   ·rw[if_neg (by rw[beq_iff_eq]; exact k3)]
    by_cases k4:e.1=4
    ·rw[if_pos (by rw[k4]; rfl),if_pos (.inr k4),PU hs (.inr k4)]
     exact⟨_,rfl,fun _=>rfl⟩
    ·rw[if_neg (by rw[beq_iff_eq]; exact k4),if_neg (c:=e.1=3∨e.1=4) (by omega)]
     by_cases k5:e.1=5
     ·rw[if_pos (by rw[k5]; rfl),if_pos k5]
      obtain⟨x,h1,h2⟩:=NM hs e
      rw[h1]
      exact⟨x,rfl,h2⟩
     ·rw[if_neg (by rw[beq_iff_eq]; exact k5),if_neg k5]
      exact⟨_,rfl,fun h=>by cases h⟩
theorem HV {e:cD} (hx:e.2.2.1.size≤9223372036854775807) : ∃ x,xu s e=some ((x,(gb s e).2,()),())∧((gb s e).2=true→x=(gb s e).1):=by
 obtain⟨hl,hs1,hne,hsrt⟩:=ch hs
 rw[HP]
 unfold gb
 by_cases k1:e.1=1
 ·rw[if_pos (by rw[k1]; rfl),if_pos k1,G4 (by omega) (fun c hc=>(hs1 c hc).1) hx]
  exact⟨_,rfl,fun _=>rfl⟩
 ·rw[if_neg (by rw[beq_iff_eq]; exact k1),if_neg k1]
  by_cases k2:e.1=2
  ·rw[if_pos (by rw[k2]; rfl),if_pos k2,xE,uO]
   simp only[Option.bind_some]
   cases ji e.2.2.2.1 with
   | true =>
    rw[if_neg (by decide),if_pos rfl]
    exact⟨_,Hd (by omega) s [] [] rfl (Nat.le_refl _),fun _=>by simp⟩
   | false=>exact⟨_,rfl,fun h=>by cases h⟩
  ·rw[if_neg (by rw[beq_iff_eq]; exact k2),if_neg k2]
   by_cases k3:e.1=3
   ·rw[if_pos (by rw[k3]; rfl),if_pos (by rw[k3]; rfl),if_pos (.inl k3),PV hs (.inl k3)]
    exact⟨_,rfl,fun _=>rfl⟩
   ·rw[if_neg (by rw[beq_iff_eq]; exact k3)]
    by_cases k4:e.1=4
    ·rw[if_pos (by rw[k4]; rfl),if_pos (.inr k4),PV hs (.inr k4)]
     exact⟨_,rfl,fun _=>rfl⟩
    ·rw[if_neg (by rw[beq_iff_eq]; exact k4),if_neg (c:=e.1=3∨e.1=4) (by omega)]
     by_cases k5:e.1=5
     ·rw[if_pos (by rw[k5]; rfl),if_pos k5]
      obtain⟨x,h1,h2⟩:=NN hs e
      rw[h1]
      exact⟨x,rfl,h2⟩
     ·rw[if_neg (by rw[beq_iff_eq]; exact k5),if_neg k5]
      exact⟨_,rfl,fun h=>by cases h⟩
end
noncomputable def e8 (s:List ab) (e:cD):List ab×Bool:=if aH s=true then gb s e else([],false)
section
variable {s:List ab} (hs : ∀ c∈s,c.2.1.size≤9223372036854775807) (hl:s.length≤2000000)
include hs hl
theorem qu {e:cD} (hx:e.2.2.1.size≤9223372036854775807):pM s e=some (((e8 s e).1,(e8 s e).2,()),()):=by
 rw[K1,mE hs (by omega)]
 simp only[Option.bind_some]
 unfold e8
 cases h:aH s with
 | false=>rfl
 | true =>
  obtain⟨x,h1,h2⟩:=B2 h hx
  rw[if_neg (by decide),if_pos rfl,h1]
  simp only[Option.bind_some]
  cases hb:(gb s e).2 with
  | false =>
   rw[NO hb]
   rfl
  | true =>
   rw[h2 hb]
   rfl
theorem vp {e:cD} (hx:e.2.2.1.size≤9223372036854775807):sZ s e=some (((e8 s e).1,(e8 s e).2,()),()):=by
 rw[K4,vm hs (by omega)]
 simp only[Option.bind_some]
 unfold e8
 cases h:aH s with
 | false=>rfl
 | true =>
  obtain⟨x,h1,h2⟩:=HV h hx
  rw[if_neg (by decide),if_pos rfl,h1]
  simp only[Option.bind_some]
  cases hb:(gb s e).2 with
  | false =>
   rw[NO hb]
   rfl
  | true =>
   rw[h2 hb]
   rfl
end
theorem Ai {s:List ab} {e:cD} (hx:e.2.2.1.size≤9223372036854775807) (h:(e8 s e).2=true):aH s=true∧aH (e8 s e).1=true∧e8 s e=gb s e:=by
 unfold e8 at h ⊢
 cases hs:aH s with
 | false=>rw[hs] at h; cases h
 | true =>
  rw[hs,if_pos rfl] at h
  rw[if_pos rfl]
  exact⟨rfl,EL hx hs h,rfl⟩
noncomputable def q5 (s:List ab) (l:List cD):List ab×Bool:=if aH s=true∧l.length≤360 then(match iA s l with | none=>([],false) | some t=>(t,true)) else([],false)
theorem Hj {L:List cD} (hL:L.length≤2000000) (hx : ∀ e∈L,e.2.2.1.size≤9223372036854775807) : ∀(ys pre:List cD) (t:List ab),L=pre++ys→aH t=true→lR L (L.length:Int) (pre.length:Int) t=(match iA t ys with | none=>some (([],false,()),()) | some u=>some ((u,true,()),()))
 | [],pre,t,h,_=>by
  rw[rs,aE (ct h)]
  rfl
 | y :: ys,pre,t,h,ht=>by
  have hy:=hx y (by rw[h]; simp)
  obtain⟨x,h1,h2⟩:=B2 ht hy
  rw[rs,aI (cK h),bU h,bk h (by omega),h1]
  simp only[Option.bind_some]
  rw[iA]
  cases hb:(gb t y).2 with
  | false=>rfl
  | true =>
   rw[h2 hb,if_neg (by decide),if_pos rfl]
   exact Hj hL hx ys _ _ (aZ h) (EL hy ht hb)
theorem Hk {L:List cD} (hL:L.length≤2000000) (hx : ∀ e∈L,e.2.2.1.size≤9223372036854775807) : ∀(ys pre:List cD) (t:List ab),L=pre++ys→aH t=true→lS L (pre.length:Int) t=(match iA t ys with | none=>some (([],false,()),()) | some u=>some ((u,true,()),()))
 | [],pre,t,h,_=>by
  rw[rt,aE (ct h)]
  rfl
 | y :: ys,pre,t,h,ht=>by
  have hy:=hx y (by rw[h]; simp)
  obtain⟨hl,hs1,_,_⟩:=ch ht
  rw[rt,aI (cK h),bU h,bk h (by omega),vp (fun c hc=>(hs1 c hc).1) (by omega) hy]
  simp only[Option.bind_some]
  rw[iA]
  have hr:e8 t y=gb t y:=by
   unfold e8
   rw[if_pos ht]
  rw[hr]
  cases hb:(gb t y).2 with
  | false=>rfl
  | true =>
   rw[if_neg (by decide),if_pos rfl]
   exact Hk hL hx ys _ _ (aZ h) (EL hy ht hb)
section
variable {s:List ab} (hs : ∀ c∈s,c.2.1.size≤9223372036854775807) (hl:s.length≤2000000) {L:List cD} (hL:L.length≤2000000) (hx : ∀ e∈L,e.2.2.1.size≤9223372036854775807)
include hs hl hL hx
theorem l7:kj s L=some (((q5 s L).1,(q5 s L).2,()),()):=by
 rw[Fv,mE hs (by omega)]
 simp only[Option.bind_some]
 unfold q5
 cases h:aH s with
 | false=>simp
 | true =>
  by_cases h2:L.length≤360
  ·rw[if_neg (by decide),aE (by omega),if_pos ⟨rfl,h2⟩,qr (by omega)]
   simp only[Option.bind_some]
   have hlp:=Hj hL hx L [] s rfl h
   refine hlp.trans ?_
   cases iA s L <;> rfl
  ·rw[if_neg (by decide),aI (by omega),if_neg (fun h=>h2 h.2)]
theorem F1:u5 s L=some (((q5 s L).1,(q5 s L).2,()),()):=by
 rw[Fw,vm hs (by omega)]
 simp only[Option.bind_some]
 unfold q5
 cases h:aH s with
 | false=>simp
 | true =>
  by_cases h2:L.length≤360
  ·rw[if_neg (by decide),aE (by omega),if_pos ⟨rfl,h2⟩,bG (by simp only[List.length_nil]; omega),List.nil_append]
   have hlp:=Hk hL hx L [] s rfl h
   refine hlp.trans ?_
   cases iA s L <;> rfl
  ·rw[if_neg (by decide),aI (by omega),if_neg (fun h=>h2 h.2)]
end
noncomputable def Kr (s:List ab) (e:cD):List cD×Bool:=if(e8 s e).2=true then(EM s (e8 s e).1,true) else([],false)
theorem CQ {L:List dk} (hL:L.length≤2000000) : ∀(ys pre:List dk) (a b:List cD),L=pre++ys→a.length+ys.length≤2000000→b.length+ys.length≤2000000→s9 (L.length:Int) (pre.length:Int) a b L=some ((a++((ys.filter fun c=>decide (c.2.1=eS)).map fun c=>tL c.1 eS)++(b++((ys.filter fun c => !decide (c.2.1=eS)).map fun c=>tL c.1 c.2.1)),true,()),())
 | [],pre,a,b,h,ha,hb=>by
  rw[List.length_nil] at ha hb
  rw[BP,aE (ct h),bG (by omega)]
  simp
 | y :: ys,pre,a,b,h,ha,hb=>by
  rw[List.length_cons] at ha hb
  have hg:List.getD L (Int.toNat (pre.length:Int)) iV.dflt=y:=by rw[h]; exact j9
  rw[BP,aI (cK h),ir h,hg,bk h (by omega),ol]
  by_cases k:y.2.1=eS
  ·have k':y.2.1=(⟨#[]⟩:ByteArray):=k
   rw[decide_eq_true k',if_pos rfl,bG (by simp only[List.length_singleton]; omega),CQ hL ys _ _ _ (aZ h) (by simp only[List.length_append,List.length_singleton]; omega) (by omega)]
   simp[k,tL,eS]
  ·have k' : ¬y.2.1=(⟨#[]⟩:ByteArray):=k
   rw[decide_eq_false k',if_neg (by decide),bG (by simp only[List.length_singleton]; omega),CQ hL ys _ _ _ (aZ h) (by omega) (by simp only[List.length_append,List.length_singleton]; omega)]
   simp[k,tL]
section
variable {s:List ab} (hs : ∀ c∈s,c.2.1.size≤9223372036854775807) (hl:s.length≤2000000) {e:cD} (hx:e.2.2.1.size≤9223372036854775807)
include hs hl hx
theorem Rh:Mz s e=some (((Kr s e).1,(Kr s e).2,()),()):=by
 rw[QA,qu hs hl hx]
 simp only[Option.bind_some]
 unfold Kr
 cases hb:(e8 s e).2 with
 | false=>rfl
 | true =>
  obtain⟨h1,h2,h3⟩:=Ai hx hb
  have g1:=ch h1
  have g2:=ch h2
  rw[if_neg (by decide),if_pos rfl,Q3 (by omega) (by omega)]
  simp only[Option.bind_some]
  have hd:=Ka h1 h2
  exact CQ (by omega) (nO s (e8 s e).1) [] [] [] rfl (by simp only[List.length_nil]; omega) (by simp only[List.length_nil]; omega)
end
end Go.Proofs.YtddiiceaindlhaaGreatDoor.Abs
