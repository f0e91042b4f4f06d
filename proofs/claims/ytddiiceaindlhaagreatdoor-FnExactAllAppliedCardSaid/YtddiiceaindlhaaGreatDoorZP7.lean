/- Plain laws: sheets behind the opening or the closing of rows, behind a copy, behind an area cleared. -/
import Derived.Test.YtddiiceaindlhaaGreatDoorZP5
import Derived.Test.YtddiiceaindlhaaGreatDoorZP4
import Derived.Test.YtddiiceaindlhaaGreatDoorZP6
set_option linter.unusedVariables false
set_option linter.unusedSimpArgs false
set_option linter.unusedSectionVars false
namespace Go.Proofs.YtddiiceaindlhaaGreatDoor.Abs
open Go
def gj (row many:Int) (closed:Bool) (q:ai):ai:=(q.1,fj row many closed 0 q.2.1,())
def dR (row many:Int) (closed:Bool) (q:ai):Bool:=closed && (decide (row≤q.2.1) && decide (q.2.1 < row+many))
noncomputable def cp (row many:Int) (closed:Bool):List ab→Option (List ab)
 | []=>some []
 | c :: l=>if dR row many closed c.1=true then cp row many closed l else match rd (fy row many closed) c.2.1 with
  | none=>none
  | some y=>if ar (gj row many closed c.1)=true then(cp row many closed l).map fun r=>(gj row many closed c.1,y,()) :: r else none
theorem N3 {row many:Int} {closed:Bool} {a b:ai} (hm:0≤many) (ha:dR row many closed a=false) (hb:dR row many closed b=false) (h:aR a b=true):aR (gj row many closed a) (gj row many closed b)=true:=by
 rw[jf] at h ⊢
 unfold gj fj
 dsimp only
 unfold dR at ha hb
 cases closed with
 | false =>
  simp only[if_true]
  split <;> split <;> omega
 | true =>
  simp only[Bool.true_and,Bool.and_eq_false_iff,decide_eq_false_iff_not] at ha hb
  simp only[Bool.true_eq_false,if_false]
  split <;> split <;> (try split) <;> (try split) <;> omega
theorem u4 {row many:Int} {closed:Bool} : ∀ {s r:List ab},cp row many closed s=some r→r.length≤s.length ∧ ∀ d∈r,∃ c∈s,dR row many closed c.1=false∧d.1=gj row many closed c.1∧rd (fy row many closed) c.2.1=some d.2.1∧ar d.1=true
 | [],r,h=>by
  unfold cp at h
  cases h
  exact⟨Nat.le_refl _,fun d hd=>by cases hd⟩
 | c :: l,r,h=>by
  unfold cp at h
  by_cases hg:dR row many closed c.1=true
  ·rw[if_pos hg] at h
   obtain⟨h1,h2⟩:=u4 h
   exact⟨by rw[List.length_cons]; omega,fun d hd=>(h2 d hd).imp fun c hc=>⟨List.mem_cons_of_mem _ hc.1,hc.2⟩⟩
  ·rw[if_neg hg] at h
   cases hy:rd (fy row many closed) c.2.1 with
   | none=>rw[hy] at h; cases h
   | some y =>
    rw[hy] at h
    simp only at h
    by_cases ho:ar (gj row many closed c.1)=true
    ·rw[if_pos ho] at h
     cases hr:cp row many closed l with
     | none=>rw[hr] at h; cases h
     | some q =>
      rw[hr] at h
      simp only[Option.map_some,Option.some.injEq] at h
      subst h
      obtain⟨h1,h2⟩:=u4 hr
      refine⟨by simp only[List.length_cons]; omega,fun d hd => ?_⟩
      rcases List.mem_cons.1 hd with rfl | hd
      ·exact⟨c,List.mem_cons_self,by simpa using hg,rfl,hy,ho⟩
      ·exact(h2 d hd).imp fun c hc=>⟨List.mem_cons_of_mem _ hc.1,hc.2⟩
    ·rw[if_neg ho] at h
     cases h
theorem AA {row many:Int} {closed:Bool} (hm:0≤many) : ∀ {s r:List ab},eZ s→cp row many closed s=some r→eZ r
 | [],r,_,h=>by
  unfold cp at h
  cases h
  exact List.Pairwise.nil
 | c :: l,r,hs,h=>by
  have hs':=List.pairwise_cons.1 hs
  unfold cp at h
  by_cases hg:dR row many closed c.1=true
  ·rw[if_pos hg] at h
   exact AA hm hs'.2 h
  ·rw[if_neg hg] at h
   cases hy:rd (fy row many closed) c.2.1 with
   | none=>rw[hy] at h; cases h
   | some y =>
    rw[hy] at h
    simp only at h
    by_cases ho:ar (gj row many closed c.1)=true
    ·rw[if_pos ho] at h
     cases hr:cp row many closed l with
     | none=>rw[hr] at h; cases h
     | some q =>
      rw[hr] at h
      simp only[Option.map_some,Option.some.injEq] at h
      subst h
      refine List.pairwise_cons.2 ⟨fun d hd => ?_,AA hm hs'.2 hr⟩
      obtain⟨e,he,g1,g2,_,_⟩:=(u4 hr).2 d hd
      dsimp only
      rw[g2]
      exact N3 hm (by simpa using hg) g1 (hs'.1 e he)
    ·rw[if_neg ho] at h
     cases h
theorem Rz {row many:Int} {closed:Bool} (hm:0≤many) {s r:List ab} (hs:aY s=true) (h:cp row many closed s=some r):aY r=true:=by
 obtain⟨h1,h2⟩:=u4 h
 have hl:=mD hs
 refine Kv ⟨AA hm (qz hs) h,fun d hd => ?_⟩ (by omega)
 obtain⟨c,hc,_,_,g3,g4⟩:=h2 d hd
 exact⟨g4,Gm ((dG.1 hs).2.1 c hc).2 g3⟩
def dw (a:bj) (s:List ab):List ab:=s.filter fun c => !(bF c.1.1 a.1.1 a.2.1.1 && bF c.1.2.1 a.1.2.1 a.2.1.2.1)
theorem Mv {a:bj} {s:List ab} (h:aY s=true):aY (dw a s)=true:=by
 have hl:=mD h
 have:=List.length_filter_le (fun c:ab => !(bF c.1.1 a.1.1 a.2.1.1 && bF c.1.2.1 a.1.2.1 a.2.1.2.1)) s
 refine Kv ⟨List.Pairwise.filter _ (qz h),fun c hc=>(dG.1 h).2.1 c (List.mem_filter.1 hc).1⟩ (Nat.le_trans this hl)
def rr (a:bj) (q:ai):Bool:=bF q.1 a.1.1 a.2.1.1 && bF q.2.1 a.1.2.1 a.2.1.2.1
def tV (c r:Int) (q:ai):ai:=(q.1+c,q.2.1+r,())
noncomputable def gk (a:bj) (c r:Int):List ab→Option (List ab)
 | []=>some []
 | x :: l=>if rr a x.1=true then(match rd (jS c r) x.2.1 with
  | none=>none
  | some y=>(gk a c r l).map fun q=>(tV c r x.1,y,()) :: q) else gk a c r l
theorem tW {a:bj} {c r:Int} : ∀ {s q:List ab},gk a c r s=some q→q.length≤s.length ∧ ∀ d∈q,∃ x∈s,rr a x.1=true∧d.1=tV c r x.1∧rd (jS c r) x.2.1=some d.2.1
 | [],q,h=>by
  unfold gk at h
  cases h
  exact⟨Nat.le_refl _,fun d hd=>by cases hd⟩
 | x :: l,q,h=>by
  unfold gk at h
  by_cases hg:rr a x.1=true
  ·rw[if_pos hg] at h
   cases hy:rd (jS c r) x.2.1 with
   | none=>rw[hy] at h; cases h
   | some y =>
    rw[hy] at h
    simp only at h
    cases hr:gk a c r l with
    | none=>rw[hr] at h; cases h
    | some p =>
     rw[hr] at h
     simp only[Option.map_some,Option.some.injEq] at h
     subst h
     obtain⟨h1,h2⟩:=tW hr
     refine⟨by simp only[List.length_cons]; omega,fun d hd => ?_⟩
     rcases List.mem_cons.1 hd with rfl | hd
     ·exact⟨x,List.mem_cons_self,hg,rfl,hy⟩
     ·exact(h2 d hd).imp fun c hc=>⟨List.mem_cons_of_mem _ hc.1,hc.2⟩
  ·rw[if_neg hg] at h
   obtain⟨h1,h2⟩:=tW h
   exact⟨by rw[List.length_cons]; omega,fun d hd=>(h2 d hd).imp fun c hc=>⟨List.mem_cons_of_mem _ hc.1,hc.2⟩⟩
theorem Qe {c r:Int} {a b:ai} (h:aR a b=true):aR (tV c r a) (tV c r b)=true:=by
 rw[jf] at h ⊢
 unfold tV
 dsimp only
 omega
theorem Dl {a:bj} {c r:Int} : ∀ {s q:List ab},eZ s→gk a c r s=some q→eZ q
 | [],q,_,h=>by
  unfold gk at h
  cases h
  exact List.Pairwise.nil
 | x :: l,q,hs,h=>by
  have hs':=List.pairwise_cons.1 hs
  unfold gk at h
  by_cases hg:rr a x.1=true
  ·rw[if_pos hg] at h
   cases hy:rd (jS c r) x.2.1 with
   | none=>rw[hy] at h; cases h
   | some y =>
    rw[hy] at h
    simp only at h
    cases hr:gk a c r l with
    | none=>rw[hr] at h; cases h
    | some p =>
     rw[hr] at h
     simp only[Option.map_some,Option.some.injEq] at h
     subst h
     refine List.pairwise_cons.2 ⟨fun d hd => ?_,Dl hs'.2 hr⟩
     obtain⟨e,he,_,g2,_⟩:=(tW hr).2 d hd
     dsimp only
     rw[g2]
     exact Qe (hs'.1 e he)
  ·rw[if_neg hg] at h
   exact Dl hs'.2 h
noncomputable def gw (s q:List ab):List ab:=q.foldl (fun o c=>fi o c.1 c.2.1) s
theorem KB : ∀ {q s:List ab},eZ s→eZ (gw s q)
 | [],s,h=>h
 | c :: q,s,h=>KB (q:=q) (Gh h)
end Go.Proofs.YtddiiceaindlhaaGreatDoor.Abs
set_option linter.unusedVariables false
set_option linter.unusedSimpArgs false
set_option linter.unusedSectionVars false
namespace Go.Proofs.YtddiiceaindlhaaGreatDoor.Abs
open Go
abbrev cF:=Int×ai×ByteArray×bj×Int×Int×Unit
def pe (a:bj):Bool:=ar a.1 && (ar a.2.1 && (decide (a.1.1≤a.2.1.1) && decide (a.1.2.1≤a.2.1.2.1)))
def e8 (e:cF):bj:=(e.2.1,(e.2.2.2.1.2.1.1+(e.2.1.1 - e.2.2.2.1.1.1),e.2.2.2.1.2.1.2.1+(e.2.1.2.1 - e.2.2.2.1.1.2.1),()),())
noncomputable def tX (s:List ab) (e:cF):List ab×Bool :=
 if pe e.2.2.2.1=true∧ar e.2.1=true∧ar (e8 e).2.1=true then
  match gk e.2.2.2.1 (e.2.1.1 - e.2.2.2.1.1.1) (e.2.1.2.1 - e.2.2.2.1.1.2.1) s with
  | none=>([],false)
  | some q=>if(gw (dw (e8 e) s) q).length≤120 then(gw (dw (e8 e) s) q,true) else([],false)
 else([],false)
noncomputable def AB (s:List ab) (e:cF):List ab×Bool :=
 if bF e.2.2.2.2.1 1 99=true∧bF e.2.2.2.2.2.1 1 99=true then
  match cp e.2.2.2.2.1 e.2.2.2.2.2.1 (decide (e.1=4)) s with
  | none=>([],false)
  | some r=>(r,true)
 else([],false)
noncomputable def lj (s:List ab) (e:cF):List ab×Bool :=
 if e.1=1 then xk s e.2.1 e.2.2.1
 else if e.1=2 then(if pe e.2.2.2.1=true then(dw e.2.2.2.1 s,true) else([],false))
 else if e.1=3∨e.1=4 then AB s e
 else if e.1=5 then tX s e
 else([],false)
theorem TP {s:List ab} {r:ai} {x:ByteArray} (hx:x.size≤9223372036854775807) (h:(xk s r x).2=true):aY (xk s r x).1=true:=by
 unfold xk at h ⊢
 by_cases k:aY s=true∧ar r=true∧(eX x).2=true∧(fi s r (eX x).1).length≤120
 ·rw[if_pos k]
  exact Lu k.1 k.2.1 (fun hne=>(SH hx k.2.2.1).resolve_left hne) k.2.2.2
 ·rw[if_neg k] at h
  cases h
theorem Mw : ∀ {q s:List ab},Ku s→(∀ c∈q,ar c.1=true∧eY c.2.1=true)→Ku (gw s q)
 | [],s,h,_=>h
 | c :: q,s,h,hq=>Mw (q:=q) (SD h (hq c List.mem_cons_self).1 (fun _=>(hq c List.mem_cons_self).2)) (fun d hd=>hq d (List.mem_cons_of_mem _ hd))
theorem KC {a:bj}:pe a=true↔ar a.1=true∧ar a.2.1=true∧a.1.1≤a.2.1.1∧a.1.2.1≤a.2.1.2.1:=by
 unfold pe
 simp only[Bool.and_eq_true,decide_eq_true_eq]
theorem TQ {s:List ab} {e:cF} (hs:aY s=true) (h:(tX s e).2=true):aY (tX s e).1=true:=by
 unfold tX at h ⊢
 by_cases k:pe e.2.2.2.1=true∧ar e.2.1=true∧ar (e8 e).2.1=true
 ·rw[if_pos k] at h ⊢
  cases hq:gk e.2.2.2.1 (e.2.1.1 - e.2.2.2.1.1.1) (e.2.1.2.1 - e.2.2.2.1.1.2.1) s with
  | none=>rw[hq] at h; cases h
  | some q =>
   rw[hq] at h
   simp only at h ⊢
   by_cases hl:(gw (dw (e8 e) s) q).length≤120
   ·rw[if_pos hl]
    refine Kv (Mw (PP (Mv hs)) fun c hc => ?_) hl
    obtain⟨x,hx,g1,g2,g3⟩:=(tW hq).2 c hc
    refine⟨?_,Gm ((dG.1 hs).2.1 x hx).2 g3⟩
    rw[g2]
    have k2:=bC.1 k.2.1
    have k3:=bC.1 k.2.2
    unfold rr at g1
    rw[Bool.and_eq_true,bc,bc] at g1
    unfold e8 at k3
    unfold tV
    rw[bC]
    dsimp only at k3 ⊢
    omega
   ·rw[if_neg hl] at h
    cases h
 ·rw[if_neg k] at h
  cases h
theorem E8 {s:List ab} {e:cF} (hx:e.2.2.1.size≤9223372036854775807) (hs:aY s=true) (h:(lj s e).2=true):aY (lj s e).1=true:=by
 unfold lj at h ⊢
 by_cases k1:e.1=1
 ·rw[if_pos k1] at h ⊢
  exact TP hx h
 ·rw[if_neg k1] at h ⊢
  by_cases k2:e.1=2
  ·rw[if_pos k2] at h ⊢
   by_cases ka:pe e.2.2.2.1=true
   ·rw[if_pos ka]
    exact Mv hs
   ·rw[if_neg ka] at h
    cases h
  ·rw[if_neg k2] at h ⊢
   by_cases k3:e.1=3∨e.1=4
   ·rw[if_pos k3] at h ⊢
    unfold AB at h ⊢
    by_cases kr:bF e.2.2.2.2.1 1 99=true∧bF e.2.2.2.2.2.1 1 99=true
    ·rw[if_pos kr] at h ⊢
     cases hr:cp e.2.2.2.2.1 e.2.2.2.2.2.1 (decide (e.1=4)) s with
     | none=>rw[hr] at h; cases h
     | some r =>
      have:=bc.1 kr.2
      exact Rz (by omega) hs hr
    ·rw[if_neg kr] at h
     cases h
   ·rw[if_neg k3] at h ⊢
    by_cases k5:e.1=5
    ·rw[if_pos k5] at h ⊢
     exact TQ hs h
    ·rw[if_neg k5] at h
     cases h
noncomputable def AC:List ab→List cF→Option (List ab)
 | s,[]=>some s
 | s,e :: l=>if(lj s e).2=true then AC (lj s e).1 l else none
theorem Qf : ∀ {l:List cF} {s t:List ab},(∀ e∈l,e.2.2.1.size≤9223372036854775807)→aY s=true→AC s l=some t→aY t=true
 | [],s,t,_,hs,h=>by cases h; exact hs
 | e :: l,s,t,hx,hs,h=>by
  unfold AC at h
  split at h
  ·rename_i k
   exact Qf (fun d hd=>hx d (List.mem_cons_of_mem _ hd)) (E8 (hx e List.mem_cons_self) hs k) h
  ·cases h
def AD (q:ai) (x:ByteArray):cF:=(1,q,x,((0,0,()),(0,0,()),()),0,0,())
end Go.Proofs.YtddiiceaindlhaaGreatDoor.Abs
set_option linter.unusedVariables false
set_option linter.unusedSimpArgs false
set_option linter.unusedSectionVars false
namespace Go.Proofs.YtddiiceaindlhaaGreatDoor.Abs
open Go
noncomputable def TR (s a:List ab):List cF :=
 ((pd s a).filter fun c=>decide (c.2.1=eS)).map (fun c=>AD c.1 eS)++((pd s a).filter fun c => !decide (c.2.1=eS)).map (fun c=>AD c.1 c.2.1)
theorem SI (a b:List ab):pd b a=(pd a b).map Ul:=by
 refine Kt (Gi _ _) ?_ fun c => ?_
 ·have h:=Gi a b
  unfold Dc at h ⊢
  rw[List.pairwise_map]
  exact h
 ·rw[Bw,List.mem_map]
  constructor
  ·rintro⟨h1,h2,h3⟩
   exact⟨(c.1,c.2.2.1,c.2.1,()),Bw.2 ⟨h2,h1,fun e=>h3 e.symm⟩,rfl⟩
  ·rintro⟨d,hd,rfl⟩
   obtain⟨h1,h2,h3⟩:=Bw.1 hd
   exact⟨h2,h1,fun e=>h3 e.symm⟩
section
variable {s a:List ab} (hs:aY s=true) (ha:aY a=true)
include hs ha
end
end Go.Proofs.YtddiiceaindlhaaGreatDoor.Abs
set_option linter.unusedVariables false
set_option linter.unusedSimpArgs false
set_option linter.unusedSectionVars false
namespace Go.Proofs.YtddiiceaindlhaaGreatDoor.Abs
open Go
def dg (a:bj) (c:ab):Bool:=bF c.1.1 a.1.1 a.2.1.1 && bF c.1.2.1 a.1.2.1 a.2.1.2.1
theorem mG (a:bj) (r:ai):kS a r=some ((bF r.1 a.1.1 a.2.1.1 && bF r.2.1 a.1.2.1 a.2.1.2.1,()),()):=by
 rw[JI]
 simp only[jy,Option.bind_some]
 cases bF r.1 a.1.1 a.2.1.1 <;> simp
theorem KD (c:ab) (e:cF):qq c e=some ((dg e.2.2.2.1 c,()),(e,())):=by
 rw[FO,mG]
 rfl
theorem SJ (c:ab) (e:cF):xP c e.1 e.2.1 e.2.2.1 e.2.2.2.1 e.2.2.2.2.1 e.2.2.2.2.2.1=some ((dg e.2.2.2.1 c,()),(e,())):=by
 rw[H7,mG]
 rfl
theorem SK {s:List ab} {e:cF} (hl:s.length≤1000000000) : ∀(ys pre:List ab),s=pre++ys→b7 s (s.length:Int) (pre.length:Int) e=some ((i7 (dg e.2.2.2.1) ys pre.length,()),(e,())) :=
 yq (p:=dg e.2.2.2.1) (d:=ac.dflt) (F:=fun j=>some ((j,()),(e,()))) (s:=s) (P:=fun j=>b7 s (s.length:Int) j e) (by omega) fun j=>by
  rw[jM]
  simp only[KD,Option.bind_some]
theorem SL {s:List ab} {e:cF} (hl:s.length≤1000000000):ey s e.1 e.2.1 e.2.2.1 e.2.2.2.1 e.2.2.2.2.1 e.2.2.2.2.2.1=some ((i7 (dg e.2.2.2.1) s 0,()),(e,())):=by
 rw[lQ,ke]
 cases s with
 | nil=>rfl
 | cons c l =>
  have h2:=SK (e:=e) hl l [c] rfl
  rw[aD (by rw[List.length_cons]; omega)]
  have hix : ∀ {β:Type} {F:ab→Option β},ix (c :: l) 0 ac.dflt F=F c:=fun {β F}=>bv (pre:=[]) (ys:=l) rfl
  rw[hix,SJ,Option.bind_some]
  dsimp only
  unfold i7
  by_cases h:dg e.2.2.2.1 c=true
  ·rw[if_pos h,if_pos h]
   rfl
  ·rw[if_neg h,if_neg h]
   exact h2
theorem SM {s:List ab} {e:cF} (hl:s.length≤1000000000):dN s e.1 e.2.1 e.2.2.1 e.2.2.2.1 e.2.2.2.2.1 e.2.2.2.2.2.1=some ((dw e.2.2.2.1 s,()),(e,())):=by
 rw[j9,SL hl,Option.bind_some]
 dsimp only
 have hc:dw e.2.2.2.1 s=s.filter fun c => !dg e.2.2.2.1 c:=rfl
 rw[hc]
 by_cases h:i7 (dg e.2.2.2.1) s 0 = -1
 ·rw[h,if_pos (by rfl)]
  have:=Bx h
  have hf:(s.filter fun c => !dg e.2.2.2.1 c)=s:=List.filter_eq_self.2 fun c hc=>by
   have:=this c hc
   simpa using this
  rw[hf]
 ·obtain⟨pre,x,ys,h1,h2,h3,h4⟩:=Bz h
  rw[if_neg (by simpa using h),h4,Nat.zero_add]
  have hlen:pre.length+1+ys.length≤1000000000:=by rw[h1] at hl; simp at hl; omega
  have hd:=tT (p:=dg e.2.2.2.1) (d:=ac.dflt) (P:=fun i j xs=>bS i j xs e) (F:=fun l=>some ((l,()),(e,()))) (fun i j xs=>by
   rw[jb]
   simp only[KD,Option.bind_some]) ys pre [x] (by simp only[List.length_singleton]; omega) (by simp)
  rw[wr (by omega) (by omega)]
  have e1:pre++[x]++ys=s:=by rw[h1]; simp
  have e2:((pre.length+[x].length:Nat):Int)=(pre.length:Int)+1:=by simp
  rw[e1,e2] at hd
  refine hd.trans ?_
  have e3:(s.filter fun c => !dg e.2.2.2.1 c)=pre++ys.filter fun c => !dg e.2.2.2.1 c:=by
   rw[h1,List.filter_append,List.filter_cons_of_neg (by simp[h2])]
   congr 1
   rw[List.filter_eq_self]
   intro c hc
   simpa using h3 c hc
  rw[e3]
theorem HE {s:List ab} {a:bj} (hl:s.length≤1000000) {k:Int} {q:ai} {t:ByteArray} {m n:Int} : ∀(ys pre acc:List ab),s=pre++ys→acc.length≤pre.length→jH s (pre.length:Int) k q t a m n acc=some ((acc++dw a ys,true,()),())
 | [],pre,acc,h,_=>by
  rw[tD,av (bO h)]
  simp[dw]
 | y :: ys,pre,acc,h,ha=>by
  have hlen:pre.length≤1000000:=by
   have:=congrArg List.length h
   simp only[List.length_append,List.length_cons] at this
   omega
  have ih:=fun acc' h'=>HE (a:=a) hl (k:=k) (q:=q) (t:=t) (m:=m) (n:=n) ys (pre++[y]) acc' (aK h) h'
  have hw:kQ y.1 a=some ((dg a y,()),()):=by
   rw[tt]
   simp only[eA,Option.bind_some]
   unfold dg
   cases bF y.1.1 a.1.1 a.2.1.1 <;> simp
  rw[tD,aD (bP h),bv h,hw,Option.bind_some,bv h,aX h (by omega)]
  dsimp only
  have e:dw a (y :: ys)=(if dg a y=true then [] else [y])++dw a ys:=by
   unfold dw
   rw[List.filter_cons]
   show(if(!dg a y)=true then _ else _)=_
   cases dg a y <;> rfl
  cases hh:dg a y with
  | true =>
   rw[if_neg (by decide),ih acc (by simp only[List.length_append,List.length_singleton]; omega),e,hh]
   simp
  | false =>
   rw[if_pos (by rfl),bo (by simp only[List.length_singleton]; omega),ih _ (by simp only[List.length_append,List.length_singleton]; omega),e,hh]
   simp
section
variable {s:List ab} {a:bj} (hs : ∀ c∈s,c.2.1.size≤9223372036854775807) (hl:s.length≤1000000)
include hs hl
end
end Go.Proofs.YtddiiceaindlhaaGreatDoor.Abs
set_option linter.unusedVariables false
set_option linter.unusedSimpArgs false
set_option linter.unusedSectionVars false
namespace Go.Proofs.YtddiiceaindlhaaGreatDoor.Abs
open Go
theorem N4 {x:ByteArray} (hx:x.size≤9223372036854775807):oD x=some (((iq x).getD [],(iq x).isSome,()),()):=by
 have hl:(lb x).length≤9223372036854775807:=by rw[pU]; exact hx
 have hc:ch x (⟨#[61]⟩:ByteArray)=some ((ba (if [61].isPrefixOf (lb x)=true then(lb x).drop 1 else lb x),[61].isPrefixOf (lb x),()),()):=by
  have:=q9 (lb x) [61] hl
  rwa[fX] at this
 have hsz:(ba ((lb x).drop 1)).size≤9223372036854775807:=by
  rw[aq,List.length_drop]
  omega
 have hp:List.isPrefixOf [61] (lb x)=decide ((lb x).head? = some 61):=by
  cases lb x with
  | nil=>rfl
  | cons b l =>
   by_cases h:b=61
   ·subst h
    rfl
   ·simp[List.isPrefixOf,h,Ne.symm h]
 rw[H8,hc,hp]
 simp only[Option.bind_some]
 unfold iq
 by_cases hb:(lb x).head? = some 61
 ·simp only[hb,decide_true,Bool.not_true,Bool.false_eq_true,if_false,if_true,true_and]
  rw[(ra hsz).2.1]
  simp only[Option.bind_some]
  cases hr:(gq (ba ((lb x).drop 1))).2 with
  | true=>rfl
  | false =>
   rw[(ra hsz).2.2.2 hr]
   rfl
 ·simp only[hb,decide_false,Bool.not_false,if_true,false_and,if_false]
  rfl
theorem R5 {x:ByteArray} (hx:x.size≤9223372036854775807):lE x=some (((iq x).getD [],(iq x).isSome,()),()):=by
 rw[HX]
 unfold iq
 cases hl':lb x with
 | nil =>
  have he:x=ba []:=by rw[←fX x,hl']
  have h2:(ByteArray.toList x == ByteArray.toList (⟨#[]⟩:ByteArray))=true:=by
   rw[he]
   have:(⟨#[]⟩:ByteArray)=ba []:=rfl
   rw[this,cN]
   simp
  rw[if_pos h2,if_neg (by simp)]
  rfl
 | cons b l =>
  have hx':x=ba (b :: l):=by rw[←hl',fX]
  subst hx'
  have hsz:(ba l).size≤9223372036854775807:=by
   rw[aq] at hx ⊢
   simp only[List.length_cons] at hx
   omega
  have he:(ByteArray.toList (ba (b :: l)) == ByteArray.toList (⟨#[]⟩:ByteArray))=false:=by
   have:(⟨#[]⟩:ByteArray)=ba []:=rfl
   rw[this,cN]
   simp
  rw[he,o6]
  simp only[Bool.false_eq_true,if_false]
  by_cases hb:b=61
  ·subst hb
   rw[if_neg (by decide)]
   have hsl : ∀(k:ByteArray→Option ((List aa×(Bool×Unit))×Unit)),ii (ba (61 :: l)) 1 k=k (ba l):=fun k=>by
    have:=fq (l:=61 :: l) (n:=1) (f:=k) (by simp)
    exact this
   rw[hsl,(ra hsz).1]
   simp only[Option.bind_some,List.head?_cons,true_and,List.drop_succ_cons,List.drop_zero]
   cases hr:(gq (ba l)).2 with
   | true=>rfl
   | false =>
    rw[(ra hsz).2.2.2 hr]
    rfl
  ·have hb':((b.toNat:Int) != 61)=true:=by
    rw[bne_iff_ne]
    intro h
    apply hb
    apply UInt8.toNat_inj.1
    have:((61:UInt8).toNat)=61:=rfl
    omega
   rw[if_pos hb']
   simp only[List.head?_cons,Option.some.injEq,hb,false_and,if_false]
   rfl
def HF (f:List aa):Bool:=decide (bL f≠[]∧(bL f).length < 200)
section
variable {f:List aa} (hf:fh f=true)
include hf
theorem lk:nv f=some ((ba (61 :: bL f),HF f,()),()):=by
 have hs:=Aw hf
 have hl:=Ax f
 rw[zQ,(Dk (by omega) hs.2.1 hs.2.2).1]
 simp only[Option.bind_some]
 have hc : ∀(k:ByteArray→Option ((ByteArray×(Bool×Unit))×Unit)),cats (⟨#[61]⟩:ByteArray) (ba (bL f)) k=k (ba (61 :: bL f)):=fun k=>by
  have:=bk (a:=[61]) (b:=bL f) (f:=k) (by simp only[List.length_singleton]; omega)
  exact this
 rw[hc]
 have he:(ByteArray.toList (ba (bL f)) == ByteArray.toList (⟨#[]⟩:ByteArray))=decide (bL f=[]):=by
  have:(⟨#[]⟩:ByteArray)=ba []:=rfl
  rw[this,cN]
 rw[he,aq]
 unfold HF
 by_cases h:bL f=[]
 ·simp[h]
 ·simp only[h,decide_false,Bool.not_false,if_true,ne_eq,not_false_eq_true,true_and]
  have e:decide (((bL f).length:Int) < 200)=decide ((bL f).length < 200):=by
   rw[Bool.eq_iff_iff,decide_eq_true_eq,decide_eq_true_eq]
   omega
  rw[e]
theorem AE {b:Bool}:nt f b=some ((if b=true∧HF f=true then ba (61 :: bL f) else eS,()),()):=by
 have hs:=Aw hf
 have hl:=Ax f
 rw[JF,(Dk (by omega) hs.2.1 hs.2.2).2]
 simp only[Option.bind_some]
 have hc : ∀(k:ByteArray→Option ((ByteArray×Unit)×Unit)),cats (⟨#[61]⟩:ByteArray) (ba (bL f)) k=k (ba (61 :: bL f)):=fun k=>by
  have:=bk (a:=[61]) (b:=bL f) (f:=k) (by simp only[List.length_singleton]; omega)
  exact this
 have he:(ByteArray.toList (ba (bL f)) == ByteArray.toList (⟨#[]⟩:ByteArray))=decide (bL f=[]):=by
  have:(⟨#[]⟩:ByteArray)=ba []:=rfl
  rw[this,cN]
 rw[he,hc,aq,dv (by omega) (by omega)]
 unfold HF
 cases b with
 | false=>simp
 | true =>
  by_cases h:bL f=[]
  ·simp[h]
  ·simp only[h,decide_false,Bool.not_true,Bool.false_eq_true,if_false,ne_eq,not_false_eq_true,true_and,decide_eq_true_eq]
   by_cases h2:(bL f).length < 200
   ·rw[if_neg (by omega),if_pos h2]
   ·rw[if_pos (by omega),if_neg h2]
end
noncomputable def rC (g:aa→aa) (x:ByteArray):ByteArray×Bool:=match iq x with
 | none=>(x,true)
 | some f=>(ba (61 :: bL (f.map g)),HF (f.map g))
theorem Iv (g:aa→aa) (x:ByteArray):rd g x=if(rC g x).2=true then some (rC g x).1 else none:=by
 unfold rd rC
 cases iq x with
 | none=>rfl
 | some f =>
  dsimp only
  unfold HF
  simp only[decide_eq_true_eq]
section
variable {x:ByteArray} (hx:x.size≤9223372036854775807)
include hx
def vI (k:Int) (closed:Bool):Prop:=(k=3∧closed=false)∨(k=4∧closed=true)
theorem xl {e:cF} {closed:Bool} (hk:vI e.1 closed) (hr:1≤e.2.2.2.2.1∧e.2.2.2.2.1≤1000) (hm:0≤e.2.2.2.2.2.1∧e.2.2.2.2.2.1≤1000):dP x e=some (((rC (fy e.2.2.2.2.1 e.2.2.2.2.2.1 closed) x).1,(rC (fy e.2.2.2.2.1 e.2.2.2.2.2.1 closed) x).2,()),(e,())):=by
 rw[t7,N4 hx]
 simp only[Option.bind_some]
 unfold rC
 cases hf:iq x with
 | none=>rfl
 | some f =>
  have hok:=tU hf hx
  have hok2:=xi (Ky e.2.2.2.2.1 e.2.2.2.2.2.1 closed) hok
  simp only[Option.isSome_some,Bool.not_true,Bool.false_eq_true,if_false,Option.getD_some]
  rw[JP]
  rcases hk with⟨hk,rfl⟩ | ⟨hk,rfl⟩
  ·rw[if_pos (by rw[hk]; rfl),E3 hok hr (by omega)]
   simp only[Option.bind_some,lk hok2]
  ·rw[if_neg (by rw[hk]; decide),E4 hok hr hm]
   simp only[Option.bind_some,lk hok2]
theorem E9 {e:cF} {closed:Bool} (hk:vI e.1 closed) (hr:1≤e.2.2.2.2.1∧e.2.2.2.2.1≤1000) (hm:0≤e.2.2.2.2.2.1∧e.2.2.2.2.2.1≤1000):d7 x e.1 e.2.1 e.2.2.1 e.2.2.2.1 e.2.2.2.2.1 e.2.2.2.2.2.1=some (((rC (fy e.2.2.2.2.1 e.2.2.2.2.2.1 closed) x).1,(rC (fy e.2.2.2.2.1 e.2.2.2.2.2.1 closed) x).2,()),(e,())):=by
 rw[vu,N4 hx]
 simp only[Option.bind_some]
 unfold rC
 cases hf:iq x with
 | none=>rfl
 | some f =>
  have hok:=tU hf hx
  have hok2:=xi (Ky e.2.2.2.2.1 e.2.2.2.2.2.1 closed) hok
  simp only[Option.isSome_some,Bool.not_true,Bool.false_eq_true,if_false,Option.getD_some]
  rw[Le]
  rcases hk with⟨hk,rfl⟩ | ⟨hk,rfl⟩
  ·rw[if_pos (by rw[hk]; rfl),E3 hok hr (by omega)]
   simp only[Option.bind_some,lk hok2]
  ·rw[if_neg (by rw[hk]; decide),E4 hok hr hm]
   simp only[Option.bind_some,lk hok2]
theorem Ie {c r:Int} (hc : -1000≤c∧c≤1000) (hr : -1000≤r∧r≤1000):js x c r=some (((rC (jS c r) x).1,(rC (jS c r) x).2,()),(c,r,())):=by
 rw[t8,N4 hx]
 simp only[Option.bind_some]
 unfold rC
 cases hf:iq x with
 | none=>rfl
 | some f =>
  have hok:=tU hf hx
  have hok2:=xi (P2 c r) hok
  simp only[Option.isSome_some,Bool.not_true,Bool.false_eq_true,if_false,Option.getD_some]
  rw[JL,Lx hok hc hr]
  simp only[Option.bind_some,lk hok2]
end
end Go.Proofs.YtddiiceaindlhaaGreatDoor.Abs
set_option linter.unusedVariables false
set_option linter.unusedSimpArgs false
set_option linter.unusedSectionVars false
namespace Go.Proofs.YtddiiceaindlhaaGreatDoor.Abs
open Go
def tY (o:Option (List ab)):List ab×(Bool×Unit):=match o with
 | none=>([],false,())
 | some r=>(r,true,())
theorem Fa {row many n:Int} {closed:Bool}:n < row→fj row many closed 0 n=n:=fun h=>by
 unfold fj
 rw[if_pos h]
section
variable {s:List ab} (hl:s.length≤1000000) (hs : ∀ c∈s,c.2.1.size≤9223372036854775807∧ar c.1=true)
include hl hs
theorem HG {e:cF} {closed:Bool} (hk:vI e.1 closed) (hr:1≤e.2.2.2.2.1∧e.2.2.2.2.1≤99) (hm:1≤e.2.2.2.2.2.1∧e.2.2.2.2.2.1≤99) {y:ab} (hy:y∈s) (acc:List ab) (ha:acc.length≤1000000) (q:ai) (k:cF→List ab→Option ((List ab×(Bool×Unit))×Unit)) :
  ((dP y.2.1 e).bind fun z1=>(if(!z1.1.2.1)=true then(some ((([]:(List ab)),false,()),(()))) else((gm q).bind fun z2=>(if(!z2.1.1)=true then(some ((([]:(List ab)),false,()),(()))) else(app acc ([(q,z1.1.1,())]:(List ab)) 32 fun y2=>(k z1.2.1 y2)))))) =
  match rd (fy e.2.2.2.2.1 e.2.2.2.2.2.1 closed) y.2.1 with
  | none=>some (([],false,()),())
  | some x=>if ar q=true then k e (acc++[(q,x,())]) else some (([],false,()),()):=by
 rw[xl (hs y hy).1 hk (by omega) (by omega),Iv]
 simp only[Option.bind_some]
 cases (rC (fy e.2.2.2.2.1 e.2.2.2.2.2.1 closed) y.2.1).2 with
 | false=>rfl
 | true =>
  simp only[Bool.not_true,Bool.false_eq_true,if_false,if_true,nE,Option.bind_some]
  cases ar q with
  | false=>rfl
  | true =>
   simp only[Bool.not_true,Bool.false_eq_true,if_false,if_true]
   exact bo (by simp only[List.length_singleton]; omega)
theorem N5 {e:cF} {closed:Bool} (hk:vI e.1 closed) (hr:1≤e.2.2.2.2.1∧e.2.2.2.2.1≤99) (hm:1≤e.2.2.2.2.2.1∧e.2.2.2.2.2.1≤99) {y:ab} (hy:y∈s) (acc:List ab) (ha:acc.length≤1000000) (q:ai) (k:cF→List ab→Option ((List ab×(Bool×Unit))×Unit)) :
  ((d7 y.2.1 e.1 e.2.1 e.2.2.1 e.2.2.2.1 e.2.2.2.2.1 e.2.2.2.2.2.1).bind fun z1=>(if(!z1.1.2.1)=true then(some ((([]:(List ab)),false,()),(()))) else((gm q).bind fun z2=>(if(!z2.1.1)=true then(some ((([]:(List ab)),false,()),(()))) else(app acc ([(q,z1.1.1,())]:(List ab)) 32 fun y2=>(k z1.2.1 y2)))))) =
  match rd (fy e.2.2.2.2.1 e.2.2.2.2.2.1 closed) y.2.1 with
  | none=>some (([],false,()),())
  | some x=>if ar q=true then k e (acc++[(q,x,())]) else some (([],false,()),()):=by
 rw[←HG hl hs hk hr hm hy acc ha q k,E9 (hs y hy).1 hk (by omega) (by omega),xl (hs y hy).1 hk (by omega) (by omega)]
theorem AF {row many:Int} {closed:Bool} {y:ab} {ys acc:List ab} {R:List ab→Option ((List ab×(Bool×Unit))×Unit)} (hg : ¬dR row many closed y.1=true)
  (hR : ∀ z,R (acc++[z])=some (tY ((cp row many closed ys).map fun r=>(acc++[z])++r),())) :
  (match rd (fy row many closed) y.2.1 with
  | none=>some (([],false,()),())
  | some x=>if ar (gj row many closed y.1)=true then R (acc++[(gj row many closed y.1,x,())]) else some (([],false,()),()))=some (tY ((cp row many closed (y :: ys)).map fun r=>acc++r),()):=by
 rw[cp,if_neg hg]
 cases rd (fy row many closed) y.2.1 with
 | none=>rfl
 | some x =>
  dsimp only
  by_cases h:ar (gj row many closed y.1)=true
  ·rw[if_pos h,if_pos h,hR]
   cases cp row many closed ys with
   | none=>rfl
   | some r=>simp[tY]
  ·rw[if_neg h,if_neg h]
   rfl
theorem HH {e:cF} {closed:Bool} (hk:vI e.1 closed) (hr:1≤e.2.2.2.2.1∧e.2.2.2.2.1≤99) (hm:1≤e.2.2.2.2.2.1∧e.2.2.2.2.2.1≤99) :
  ∀(ys pre acc:List ab),s=pre++ys→acc.length≤pre.length→cB s (s.length:Int) (pre.length:Int) e acc=some (tY ((cp e.2.2.2.2.1 e.2.2.2.2.2.1 closed ys).map fun r=>acc++r),())
 | [],pre,acc,h,ha=>by
  rw[yN,av (bO h),cp]
  simp[tY]
 | y :: ys,pre,acc,h,ha=>by
  have hlen:s.length=pre.length+(ys.length+1):=by rw[h]; simp
  have hy:y∈s:=by rw[h]; simp
  have hb:=bC.1 (hs y hy).2
  have ih:=fun acc' h'=>HH hk hr hm ys (pre++[y]) acc' (aK h) h'
  have ih1:=fun z=>ih (acc++[z]) (by simp; omega)
  have tail:=HG hl hs hk hr hm hy acc (by omega)
  rw[yN,aD (bP h),bv h,aX h (by omega),dv (n:=y.1.2.1+e.2.2.2.2.2.1) (by omega) (by omega),dv (n:=e.2.2.2.2.1+e.2.2.2.2.2.1) (by omega) (by omega),dv (n:=y.1.2.1 - e.2.2.2.2.2.1) (by omega) (by omega)]
  have gJ:=fun hg=>AF hl hs (row:=e.2.2.2.2.1) (many:=e.2.2.2.2.2.1) (closed:=closed) (y:=y) (ys:=ys) (acc:=acc) (R:=fun a=>cB s (s.length:Int) ((pre++[y]).length:Int) e a) hg ih1
  by_cases c1:y.1.2.1 < e.2.2.2.2.1
  ·have hg : ¬dR e.2.2.2.2.1 e.2.2.2.2.2.1 closed y.1=true:=by
    unfold dR
    simp only[Bool.and_eq_true,decide_eq_true_eq]
    omega
   have hq:y.1=gj e.2.2.2.2.1 e.2.2.2.2.2.1 closed y.1:=by
    unfold gj
    rw[Fa c1]
   rw[if_pos (by rw[decide_eq_true_eq]; exact c1)]
   have t:=tail y.1 (fun e a=>cB s (s.length:Int) ((pre++[y]).length:Int) e a)
   rw[t]
   have st:=gJ hg
   rw[←hq] at st
   exact st
  ·rw[if_neg (by rw[decide_eq_true_eq]; exact c1)]
   rcases hk with⟨hk3,rfl⟩ | ⟨hk4,rfl⟩
   ·have hg : ¬dR e.2.2.2.2.1 e.2.2.2.2.2.1 false y.1=true:=by simp[dR]
    have hq:(y.1.1,y.1.2.1+e.2.2.2.2.2.1,())=gj e.2.2.2.2.1 e.2.2.2.2.2.1 false y.1:=by
     unfold gj fj
     rw[if_neg c1,if_pos rfl]
    rw[if_pos (by rw[hk3]; rfl)]
    have t:=tail (y.1.1,y.1.2.1+e.2.2.2.2.2.1,()) (fun e a=>cB s (s.length:Int) ((pre++[y]).length:Int) e a)
    rw[t,hq]
    exact gJ hg
   ·rw[if_neg (by rw[hk4]; decide)]
    by_cases c2:y.1.2.1 < e.2.2.2.2.1+e.2.2.2.2.2.1
    ·have hg:dR e.2.2.2.2.1 e.2.2.2.2.2.1 true y.1=true:=by
      unfold dR
      simp only[Bool.and_eq_true,decide_eq_true_eq,true_and]
      omega
     rw[if_pos (by rw[decide_eq_true_eq]; exact c2),ih acc (by simp; omega),cp,if_pos hg]
    ·have hg : ¬dR e.2.2.2.2.1 e.2.2.2.2.2.1 true y.1=true:=by
      unfold dR
      simp only[Bool.and_eq_true,decide_eq_true_eq,true_and]
      omega
     have hq:(y.1.1,y.1.2.1 - e.2.2.2.2.2.1,())=gj e.2.2.2.2.1 e.2.2.2.2.2.1 true y.1:=by
      unfold gj fj
      rw[if_neg c1,if_neg (by decide),if_neg c2]
     rw[if_neg (by rw[decide_eq_true_eq]; exact c2)]
     have t:=tail (y.1.1,y.1.2.1 - e.2.2.2.2.2.1,()) (fun e a=>cB s (s.length:Int) ((pre++[y]).length:Int) e a)
     rw[t,hq]
     exact gJ hg
theorem Fb {e:cF} {closed:Bool} (hk:vI e.1 closed) (hr:1≤e.2.2.2.2.1∧e.2.2.2.2.1≤99) (hm:1≤e.2.2.2.2.2.1∧e.2.2.2.2.2.1≤99) :
  ∀(ys pre acc:List ab),s=pre++ys→acc.length≤pre.length→uE s (s.length:Int) (pre.length:Int) e.1 e.2.1 e.2.2.1 e.2.2.2.1 e.2.2.2.2.1 e.2.2.2.2.2.1 acc=some (tY ((cp e.2.2.2.2.1 e.2.2.2.2.2.1 closed ys).map fun r=>acc++r),())
 | [],pre,acc,h,ha=>by
  rw[zV,av (bO h),cp]
  simp[tY]
 | y :: ys,pre,acc,h,ha=>by
  have hlen:s.length=pre.length+(ys.length+1):=by rw[h]; simp
  have hy:y∈s:=by rw[h]; simp
  have hb:=bC.1 (hs y hy).2
  have ih0:=Fb hk hr hm ys (pre++[y]) acc (aK h) (by simp; omega)
  have ih1:=fun z=>HH hl hs hk hr hm ys (pre++[y]) (acc++[z]) (aK h) (by simp; omega)
  have tail:=N5 hl hs hk hr hm hy acc (by omega)
  rw[zV,aD (bP h),bv h,aX h (by omega),dv (n:=y.1.2.1+e.2.2.2.2.2.1) (by omega) (by omega),dv (n:=e.2.2.2.2.1+e.2.2.2.2.2.1) (by omega) (by omega),dv (n:=y.1.2.1 - e.2.2.2.2.2.1) (by omega) (by omega)]
  have gJ:=fun hg=>AF hl hs (row:=e.2.2.2.2.1) (many:=e.2.2.2.2.2.1) (closed:=closed) (y:=y) (ys:=ys) (acc:=acc) (R:=fun a=>cB s (s.length:Int) ((pre++[y]).length:Int) e a) hg ih1
  by_cases c1:y.1.2.1 < e.2.2.2.2.1
  ·have hg : ¬dR e.2.2.2.2.1 e.2.2.2.2.2.1 closed y.1=true:=by
    unfold dR
    simp only[Bool.and_eq_true,decide_eq_true_eq]
    omega
   have hq:y.1=gj e.2.2.2.2.1 e.2.2.2.2.2.1 closed y.1:=by
    unfold gj
    rw[Fa c1]
   rw[if_pos (by rw[decide_eq_true_eq]; exact c1)]
   have t:=tail y.1 (fun e a=>cB s (s.length:Int) ((pre++[y]).length:Int) e a)
   rw[t]
   have st:=gJ hg
   rw[←hq] at st
   exact st
  ·rw[if_neg (by rw[decide_eq_true_eq]; exact c1)]
   rcases hk with⟨hk3,rfl⟩ | ⟨hk4,rfl⟩
   ·have hg : ¬dR e.2.2.2.2.1 e.2.2.2.2.2.1 false y.1=true:=by simp[dR]
    have hq:(y.1.1,y.1.2.1+e.2.2.2.2.2.1,())=gj e.2.2.2.2.1 e.2.2.2.2.2.1 false y.1:=by
     unfold gj fj
     rw[if_neg c1,if_pos rfl]
    rw[if_pos (by rw[hk3]; rfl)]
    have t:=tail (y.1.1,y.1.2.1+e.2.2.2.2.2.1,()) (fun e a=>cB s (s.length:Int) ((pre++[y]).length:Int) e a)
    rw[t,hq]
    exact gJ hg
   ·rw[if_neg (by rw[hk4]; decide)]
    by_cases c2:y.1.2.1 < e.2.2.2.2.1+e.2.2.2.2.2.1
    ·have hg:dR e.2.2.2.2.1 e.2.2.2.2.2.1 true y.1=true:=by
      unfold dR
      simp only[Bool.and_eq_true,decide_eq_true_eq,true_and]
      omega
     rw[if_pos (by rw[decide_eq_true_eq]; exact c2),ih0,cp,if_pos hg]
    ·have hg : ¬dR e.2.2.2.2.1 e.2.2.2.2.2.1 true y.1=true:=by
      unfold dR
      simp only[Bool.and_eq_true,decide_eq_true_eq,true_and]
      omega
     have hq:(y.1.1,y.1.2.1 - e.2.2.2.2.2.1,())=gj e.2.2.2.2.1 e.2.2.2.2.2.1 true y.1:=by
      unfold gj fj
      rw[if_neg c1,if_neg (by decide),if_neg c2]
     rw[if_neg (by rw[decide_eq_true_eq]; exact c2)]
     have t:=tail (y.1.1,y.1.2.1 - e.2.2.2.2.2.1,()) (fun e a=>cB s (s.length:Int) ((pre++[y]).length:Int) e a)
     rw[t,hq]
     exact gJ hg
theorem Qg {e:cF} {closed:Bool} (hk:vI e.1 closed) (hr:1≤e.2.2.2.2.1∧e.2.2.2.2.1≤99) (hm:1≤e.2.2.2.2.2.1∧e.2.2.2.2.2.1≤99):zK s e=some (tY (cp e.2.2.2.2.1 e.2.2.2.2.2.1 closed s),()):=by
 rw[Pf]
 have h:=Fb hl hs hk hr hm s [] [] rfl (Nat.le_refl _)
 have e1:(cp e.2.2.2.2.1 e.2.2.2.2.2.1 closed s).map (fun r=>[]++r)=cp e.2.2.2.2.1 e.2.2.2.2.2.1 closed s:=by
  cases cp e.2.2.2.2.1 e.2.2.2.2.2.1 closed s <;> rfl
 rw[e1] at h
 exact h
theorem Qh {row many:Int} {closed:Bool} (hr:1≤row∧row≤99) (hm:1≤many∧many≤99) {y:ab} (hy:y∈s) (hne:y.2.1≠eS) (acc:List ab) (ha:acc.length≤1000000) (q:ai) (k:List ab→Option ((List ab×(Bool×Unit))×Unit)) :
  ((lE y.2.1).bind fun z3=>(if z3.1.2.1=true then((wy z3.1.1 row many closed).bind fun z4=>((nt z4.1.1 true).bind fun z5=>(if(ByteArray.toList z5.1.1 == ByteArray.toList (⟨#[]⟩:ByteArray))=true then(some ((([]:(List ab)),false,()),(()))) else((cA q).bind fun z6=>(if(!z6.1.1)=true then(some ((([]:(List ab)),false,()),(()))) else(app acc ([(q,z5.1.1,())]:(List ab)) 32 fun y2=>(k y2))))))) else(if(ByteArray.toList y.2.1 == ByteArray.toList (⟨#[]⟩:ByteArray))=true then(some ((([]:(List ab)),false,()),(()))) else((cA q).bind fun z7=>(if(!z7.1.1)=true then(some ((([]:(List ab)),false,()),(()))) else(app acc ([(q,y.2.1,())]:(List ab)) 32 fun y3=>(k y3))))))) =
  match rd (fy row many closed) y.2.1 with
  | none=>some (([],false,()),())
  | some x=>if ar q=true then k (acc++[(q,x,())]) else some (([],false,()),()):=by
 have happ : ∀(z:ab) (k:List ab→Option ((List ab×(Bool×Unit))×Unit)),app acc [z] 32 k=k (acc++[z]):=fun z k=>bo (by simp only[List.length_singleton]; omega)
 rw[R5 (hs y hy).1,Iv]
 simp only[Option.bind_some]
 unfold rC
 cases hf:iq y.2.1 with
 | none =>
  simp only[Option.isSome_none,Bool.false_eq_true,if_false,if_true,jE,hne,decide_false,gB,Option.bind_some,happ]
  cases ar q with
  | false=>rfl
  | true=>rfl
 | some f =>
  have hok:=tU hf (hs y hy).1
  have hok2:=xi (Ky row many closed) hok
  simp only[Option.isSome_some,if_true,Option.getD_some,Rv hok (row:=row) (many:=many) (closed:=closed) (by omega) (by omega),Option.bind_some,AE hok2,true_and,jE,gB,happ]
  cases hw:HF (f.map (fy row many closed)) with
  | false=>simp
  | true =>
   have hn:ba (61 :: bL (f.map (fy row many closed)))≠eS:=by
    intro h
    have:=q7 (b:=[]) h
    cases this
   simp only[if_true,hn,decide_false,Bool.false_eq_true,if_false]
   cases ar q with
   | false=>rfl
   | true=>rfl
theorem HI {k:Int} {q0:ai} {t0:ByteArray} {a0:bj} {row many:Int} {closed:Bool} (hk:(k == 4)=closed) (hr:1≤row∧row≤99) (hm:1≤many∧many≤99) (hne : ∀ c∈s,c.2.1≠eS) :
  ∀(ys pre acc:List ab),s=pre++ys→acc.length≤pre.length→fB s (pre.length:Int) k q0 t0 a0 row many acc=some (tY ((cp row many closed ys).map fun r=>acc++r),())
 | [],pre,acc,h,ha=>by
  rw[yI,av (bO h),cp]
  simp[tY]
 | y :: ys,pre,acc,h,ha=>by
  have hlen:s.length=pre.length+(ys.length+1):=by rw[h]; simp
  have hy:y∈s:=by rw[h]; simp
  have hb:=bC.1 (hs y hy).2
  have ih:=fun acc' h'=>HI (q0:=q0) (t0:=t0) (a0:=a0) hk hr hm hne ys (pre++[y]) acc' (aK h) h'
  have ih1:=fun z=>ih (acc++[z]) (by simp; omega)
  have tail:=Qh hl hs hr hm (closed:=closed) hy (hne y hy) acc (by omega) (gj row many closed y.1) (fun a=>fB s ((pre++[y]).length:Int) k q0 t0 a0 row many a)
  have gJ:=fun hg=>AF hl hs (row:=row) (many:=many) (closed:=closed) (y:=y) (ys:=ys) (acc:=acc) (R:=fun a=>fB s ((pre++[y]).length:Int) k q0 t0 a0 row many a) hg ih1
  have e1:eH y.1.2.1 row many closed 0=some ((fj row many closed 0 y.1.2.1,()),()):=u3 (by omega) (by omega) (by omega)
  rw[yI,aD (bP h),bv h,aX h (by omega),hk,e1,eA,dv (n:=row+many) (by omega) (by omega),dv (n:=row+many - 1) (by omega) (by omega)]
  simp only[Option.bind_some]
  have hq:(y.1.1,fj row many closed 0 y.1.2.1,())=gj row many closed y.1:=rfl
  rw[hq]
  have gone:dR row many closed y.1=(closed && bF y.1.2.1 row (row+many - 1)):=by
   unfold dR bF
   congr 1
   rw[Bool.eq_iff_iff]
   simp only[Bool.and_eq_true,decide_eq_true_eq]
   omega
  cases closed with
  | false =>
   rw[if_neg (by decide)]
   exact tail.trans (gJ (by simp[dR]))
  | true =>
   rw[if_pos rfl]
   by_cases c:bF y.1.2.1 row (row+many - 1)=true
   ·rw[if_pos c,ih acc (by simp; omega),cp,if_pos (by rw[gone,c]; rfl)]
   ·rw[if_neg c]
    exact tail.trans (gJ (by rw[gone]; simpa using c))
theorem N6 {e:cF} {closed:Bool} (hk:vI e.1 closed) (hne : ∀ c∈s,c.2.1≠eS):wz s e=if bF e.2.2.2.2.1 1 99=true∧bF e.2.2.2.2.2.1 1 99=true then some (tY (cp e.2.2.2.2.1 e.2.2.2.2.2.1 closed s),()) else some (([],false,()),()):=by
 rw[Na,M7,eA,eA]
 simp only[Option.bind_some]
 have hk':(e.1 == 4)=closed:=by
  rcases hk with⟨h,rfl⟩ | ⟨h,rfl⟩ <;> rw[h] <;> rfl
 cases h1:bF e.2.2.2.2.1 1 99 with
 | false=>simp
 | true =>
  cases h2:bF e.2.2.2.2.2.1 1 99 with
  | false=>simp
  | true =>
   have b1:=bc.1 h1
   have b2:=bc.1 h2
   simp only[if_true,Option.bind_some,Bool.not_true,Bool.false_eq_true,if_false,and_self]
   have h:=HI hl hs (q0:=e.2.1) (t0:=e.2.2.1) (a0:=e.2.2.2.1) hk' b1 b2 hne s [] [] rfl (Nat.le_refl _)
   have e1:(cp e.2.2.2.2.1 e.2.2.2.2.2.1 closed s).map (fun r=>[]++r)=cp e.2.2.2.2.1 e.2.2.2.2.2.1 closed s:=by
    cases cp e.2.2.2.2.1 e.2.2.2.2.2.1 closed s <;> rfl
   rw[e1] at h
   exact h
end
end Go.Proofs.YtddiiceaindlhaaGreatDoor.Abs
set_option linter.unusedVariables false
set_option linter.unusedSimpArgs false
set_option linter.unusedSectionVars false
namespace Go.Proofs.YtddiiceaindlhaaGreatDoor.Abs
open Go
theorem KE (c:ab) (a:bj):rV c a=some ((dg a c,()),(a,())):=by
 rw[Ia,mG]
 rfl
theorem SN (c:ab) (a:bj):zL c a.1 a.2.1=some ((dg a c,()),(a,())):=by
 rw[JK,mG]
 rfl
theorem SO {s:List ab} {a:bj} (hl:s.length≤1000000000) : ∀(ys pre:List ab),s=pre++ys→cb s (s.length:Int) (pre.length:Int) a=some ((i7 (dg a) ys pre.length,()),(a,())) :=
 yq (p:=dg a) (d:=ac.dflt) (F:=fun j=>some ((j,()),(a,()))) (s:=s) (P:=fun j=>cb s (s.length:Int) j a) (by omega) fun j=>by
  rw[kf]
  simp only[KE,Option.bind_some]
theorem SP {s:List ab} {a:bj} (hl:s.length≤1000000000):eM s a.1 a.2.1=some ((i7 (dg a) s 0,()),(a,())):=by
 rw[mb,kw]
 cases s with
 | nil=>rfl
 | cons c l =>
  have h2:=SO (a:=a) hl l [c] rfl
  rw[aD (by rw[List.length_cons]; omega)]
  have hix : ∀ {β:Type} {F:ab→Option β},ix (c :: l) 0 ac.dflt F=F c:=fun {β F}=>bv (pre:=[]) (ys:=l) rfl
  rw[hix,SN,Option.bind_some]
  dsimp only
  unfold i7
  by_cases h:dg a c=true
  ·rw[if_pos h,if_pos h]
   rfl
  ·rw[if_neg h,if_neg h]
   exact h2
theorem SQ {s:List ab} {a:bj} (hl:s.length≤1000000000):cI s a.1 a.2.1=some ((dw a s,()),(a,())):=by
 rw[ku,SP hl,Option.bind_some]
 dsimp only
 have hc:dw a s=s.filter fun c => !dg a c:=rfl
 rw[hc]
 by_cases h:i7 (dg a) s 0 = -1
 ·rw[h,if_pos (by rfl)]
  have:=Bx h
  have hf:(s.filter fun c => !dg a c)=s:=List.filter_eq_self.2 fun c hc=>by
   have:=this c hc
   simpa using this
  rw[hf]
 ·obtain⟨pre,x,ys,h1,h2,h3,h4⟩:=Bz h
  rw[if_neg (by simpa using h),h4,Nat.zero_add]
  have hlen:pre.length+1+ys.length≤1000000000:=by rw[h1] at hl; simp at hl; omega
  have hd:=tT (p:=dg a) (d:=ac.dflt) (P:=fun i j xs=>bT i j xs a) (F:=fun l=>some ((l,()),(a,()))) (fun i j xs=>by
   rw[jx]
   simp only[KE,Option.bind_some]) ys pre [x] (by simp only[List.length_singleton]; omega) (by simp)
  rw[wr (by omega) (by omega)]
  have e1:pre++[x]++ys=s:=by rw[h1]; simp
  have e2:((pre.length+[x].length:Nat):Int)=(pre.length:Int)+1:=by simp
  rw[e1,e2] at hd
  refine hd.trans ?_
  have e3:(s.filter fun c => !dg a c)=pre++ys.filter fun c => !dg a c:=by
   rw[h1,List.filter_append,List.filter_cons_of_neg (by simp[h2])]
   congr 1
   rw[List.filter_eq_self]
   intro c hc
   simpa using h3 c hc
  rw[e3]
theorem N7 {s:List ab} (hl:s.length≤1000000000):ez s=some ((),(cW (α:=ac.den) PQ s,())):=by
 rw[lR]
 unfold dz
 simp only[gI?,dite_true,Option.bind_some,if_true]
 exact if_pos (by omega)
theorem AG : ∀ {q s:List ab},(∀ c∈q,c.2.1≠eS)→eZ q→(∀ c∈s,∀ d∈q,c.1≠d.1)→(gw s q).Perm (s++q)
 | [],s,_,_,_=>by simp[gw]
 | d :: q,s,hne,hq,hd=>by
  have hq':=List.pairwise_cons.1 hq
  have h1:(fi s d.1 d.2.1).Perm (s++[d]):=by
   unfold fi
   rw[if_neg (hne d List.mem_cons_self)]
   have:=tR (r:=d.1) (x:=d.2.1) s
   rwa[PO (fun c hc=>hd c hc d List.mem_cons_self)] at this
  have h2:=AG (q:=q) (s:=fi s d.1 d.2.1) (fun c hc=>hne c (List.mem_cons_of_mem _ hc)) hq'.2 (fun c hc e he=>by
   rcases List.mem_append.1 (h1.mem_iff.1 hc) with h | h
   ·exact hd c h e (List.mem_cons_of_mem _ he)
   ·rw[List.mem_singleton.1 h]
    exact C5 (hq'.1 e he))
  have h3:(fi s d.1 d.2.1++q).Perm (s++[d]++q):=h1.append_right q
  have:=h2.trans h3
  have e:gw s (d :: q)=gw (fi s d.1 d.2.1) q:=rfl
  rw[e]
  simpa using this
theorem RA {s q:List ab} (hs:eZ s) (hne : ∀ c∈q,c.2.1≠eS) (hq:eZ q) (hd : ∀ c∈s,∀ d∈q,c.1≠d.1):cW (α:=ac.den) PQ (s++q)=gw s q :=
 vc ((mi NQ _).trans (AG hne hq hd).symm) (rh NQ _) (KB hs)
section
variable {s:List ab} (hl:s.length≤1000000) (hs : ∀ c∈s,c.2.1.size≤9223372036854775807∧ar c.1=true)
include hl hs
theorem HJ {k:Int} {q0:ai} {t0:ByteArray} {a:bj} {m n c r:Int} (hc : -1000≤c∧c≤1000) (hr : -1000≤r∧r≤1000) :
  ∀(ys pre acc:List ab),s=pre++ys→acc.length+ys.length≤2000000→lL s (s.length:Int) (pre.length:Int) k q0 t0 a m n c r acc=(match gk a c r ys with
   | none=>some (([],false,()),())
   | some q=>(zM (acc++q)).bind fun z3=>some ((z3.1.1,(decide ((List.length (acc++q):Int)≤120)),()),()))
 | [],pre,acc,h,ha=>by
  rw[yL,av (bO h),gk]
  simp
 | y :: ys,pre,acc,h,ha=>by
  have hlen:s.length=pre.length+(ys.length+1):=by rw[h]; simp
  have hy:y∈s:=by rw[h]; simp
  have hb:=bC.1 (hs y hy).2
  have ih:=fun acc' h'=>HJ (k:=k) (q0:=q0) (t0:=t0) (a:=a) (m:=m) (n:=n) hc hr ys (pre++[y]) acc' (aK h) h'
  rw[yL,aD (bP h),bv h,aX h (by omega),mG,gk]
  simp only[Option.bind_some]
  by_cases hi:rr a y.1=true
  ·have hi':(bF y.1.1 a.1.1 a.2.1.1 && bF y.1.2.1 a.1.2.1 a.2.1.2.1)=true:=hi
   rw[hi',if_neg (by decide),if_pos hi,Ie (hs y hy).1 hc hr,Iv]
   simp only[Option.bind_some]
   cases (rC (jS c r) y.2.1).2 with
   | false=>rfl
   | true =>
    simp only[Bool.not_true,Bool.false_eq_true,if_false,if_true]
    rw[dv (n:=y.1.1+c) (by omega) (by omega),dv (n:=y.1.2.1+r) (by omega) (by omega),bo (by simp only[List.length_cons,List.length_nil] at ha ⊢; omega),ih _ (by simp only[List.length_append,List.length_cons,List.length_nil] at ha ⊢; omega)]
    cases gk a c r ys with
    | none=>rfl
    | some q =>
     simp only[Option.map_some,List.append_assoc,List.singleton_append]
     rfl
  ·have hi0:rr a y.1=false:=by simpa using hi
   have hi':(bF y.1.1 a.1.1 a.2.1.1 && bF y.1.2.1 a.1.2.1 a.2.1.2.1)=false:=hi0
   rw[hi',if_pos (by decide),if_neg hi,ih acc (by simp only[List.length_cons] at ha; omega)]
theorem Fc {k:Int} {q0:ai} {t0:ByteArray} {a to:bj} {m n c r:Int} :
  ∀(ys pre acc:List ab),s=pre++ys→acc.length≤pre.length→lI s c r (pre.length:Int) k to.1 t0 a m n to.2.1.1 to.2.1.2.1 acc=iy s c r 0 k to.1 t0 a m n (acc++dw to ys)
 | [],pre,acc,h,ha=>by
  rw[yJ,av (bO h)]
  simp[dw]
 | y :: ys,pre,acc,h,ha=>by
  have hlen:s.length=pre.length+(ys.length+1):=by rw[h]; simp
  have ih:=fun acc' h'=>Fc (k:=k) (q0:=q0) (t0:=t0) (a:=a) (to:=to) (m:=m) (n:=n) (c:=c) (r:=r) ys (pre++[y]) acc' (aK h) h'
  have hw:kQ y.1 (to.1,(to.2.1.1,to.2.1.2.1,()),())=some ((dg to y,()),()):=by
   rw[tt,eA,eA]
   simp only[Option.bind_some]
   unfold dg
   cases bF y.1.1 to.1.1 to.2.1.1 <;> simp
  rw[yJ,aD (bP h),bv h,aX h (by omega),hw]
  simp only[Option.bind_some]
  have hcl:dw to (y :: ys)=if dg to y=true then dw to ys else y :: dw to ys:=by
   unfold dw
   rw[List.filter_cons]
   unfold dg
   cases bF y.1.1 to.1.1 to.2.1.1 && bF y.1.2.1 to.1.2.1 to.2.1.2.1 <;> rfl
  rw[hcl]
  by_cases hi:dg to y=true
  ·rw[hi,if_neg (by decide),if_pos rfl,ih acc (by simp; omega)]
  ·have hi':dg to y=false:=by simpa using hi
   rw[hi',if_pos (by decide),bv h,bo (by simp only[List.length_singleton]; omega),ih _ (by simp; omega)]
   simp
theorem Fd {k:Int} {q0:ai} {t0:ByteArray} {a:bj} {m n c r:Int} (hc : -52≤c∧c≤52) (hr : -99≤r∧r≤99) (hne : ∀ c∈s,c.2.1≠eS) :
  ∀(ys pre acc:List ab),s=pre++ys→acc.length≤pre.length+500000→(pre.length:Nat)≤400000→s.length≤400000→iy s c r (pre.length:Int) k q0 t0 a m n acc=(match gk a c r ys with
   | none=>some (([],false,()),())
   | some q=>some ((gw acc q,(decide ((List.length (gw acc q):Int)≤120)),()),()))
 | [],pre,acc,h,ha,_,_=>by
  rw[wR,av (bO h),gk]
  rfl
 | y :: ys,pre,acc,h,ha,hp,hsl=>by
  have hlen:s.length=pre.length+(ys.length+1):=by rw[h]; simp
  have hy:y∈s:=by rw[h]; simp
  have hb:=bC.1 (hs y hy).2
  have ih:=fun acc' h'=>Fd (k:=k) (q0:=q0) (t0:=t0) (a:=a) (m:=m) (n:=n) hc hr hne ys (pre++[y]) acc' (aK h) h' (by simp; omega) hsl
  have hw:kQ y.1 a=some ((rr a y.1,()),()):=by
   rw[tt,eA,eA]
   simp only[Option.bind_some]
   unfold rr
   cases bF y.1.1 a.1.1 a.2.1.1 <;> simp
  rw[wR,aD (bP h),bv h,aX h (by omega),hw,gk]
  simp only[Option.bind_some]
  by_cases hi:rr a y.1=true
  ·rw[hi,if_neg (by decide),if_pos rfl,bv h,R5 (hs y hy).1,Iv]
   simp only[Option.bind_some]
   have hset : ∀ x,wx acc (tV c r y.1) x=some ((fi acc (tV c r y.1) x,()),()):=fun x=>Hx (by omega)
   have hmv:(y.1.1+c,y.1.2.1+r,())=tV c r y.1:=rfl
   have aL : ∀ x:ByteArray,(match gk a c r ys with
     | none=>some ((([]:List ab),false,()),())
     | some q=>some ((gw (fi acc (tV c r y.1) x) q,(decide ((List.length (gw (fi acc (tV c r y.1) x) q):Int)≤120)),()),()))=(match (gk a c r ys).map fun q=>(tV c r y.1,x,()) :: q with
     | none=>some ((([]:List ab),false,()),())
     | some q=>some ((gw acc q,(decide ((List.length (gw acc q):Int)≤120)),()),())):=fun x=>by
    cases gk a c r ys with
    | none=>rfl
    | some q=>rfl
   have hsl' : ∀ x,(fi acc (tV c r y.1) x).length≤(pre++[y]).length+500000:=fun x=>by
    have:=SB acc (tV c r y.1) x
    simp
    omega
   unfold rC
   cases hf:iq y.2.1 with
   | none =>
    simp only[Option.isSome_none,Bool.false_eq_true,if_false,if_true,jE,hne y hy,decide_false]
    rw[bv h,bv h,dv (n:=y.1.1+c) (by omega) (by omega),dv (n:=y.1.2.1+r) (by omega) (by omega),hmv,hset]
    simp only[Option.bind_some]
    rw[ih _ (hsl' _)]
    exact aL _
   | some f =>
    have hok:=tU hf (hs y hy).1
    have hok2:=xi (P2 c r) hok
    simp only[Option.isSome_some,if_true,Option.getD_some]
    rw[Ly hok,if_pos ⟨bc.2 hc,bc.2 hr⟩]
    simp only[Option.bind_some,AE hok2,true_and,jE]
    cases hw:HF (f.map (jS c r)) with
    | false=>simp
    | true =>
     have hn:ba (61 :: bL (f.map (jS c r)))≠eS:=by
      intro h
      have:=q7 (b:=[]) h
      cases this
     simp only[if_true,hn,decide_false,Bool.false_eq_true,if_false]
     rw[bv h,bv h,dv (n:=y.1.1+c) (by omega) (by omega),dv (n:=y.1.2.1+r) (by omega) (by omega),hmv,hset]
     simp only[Option.bind_some]
     rw[ih _ (hsl' _)]
     exact aL _
  ·have hi':rr a y.1=false:=by simpa using hi
   rw[hi',if_pos (by decide),if_neg (by decide),ih acc (by simp; omega)]
end
theorem u5 (a:bj):cc a=pe a:=by
 unfold cc pe
 cases ar a.1 <;> cases ar a.2.1 <;> simp
section
variable {s:List ab} (hs:aY s=true)
include hs
theorem cR:s.length≤120∧(∀ c∈s,c.2.1.size≤9223372036854775807∧ar c.1=true)∧(∀ c∈s,c.2.1≠eS)∧eZ s:=by
 have h:=dG.1 hs
 exact⟨mD hs,fun c hc=>⟨Nat.le_trans (Kr hs c hc) (by decide),(h.2.1 c hc).1⟩,TA (PP hs),h.1⟩
theorem N8 (e:cF) : ∃ x,Be s e=some ((x,(tX s e).2,()),())∧((tX s e).2=true→x=(tX s e).1):=by
 obtain⟨hl,hs1,hne,hsrt⟩:=cR hs
 rw[Nl,lU,lU,u5]
 simp only[Option.bind_some]
 unfold tX
 by_cases k1:pe e.2.2.2.1=true
 ·by_cases k2:ar e.2.1=true
  ·have b1:=KC.1 k1
   have b2:=bC.1 b1.1
   have b3:=bC.1 b1.2.1
   have b4:=bC.1 k2
   have w1:=dv (n:=e.2.1.1 - e.2.2.2.1.1.1) (by omega) (by omega)
   have w2:=dv (n:=e.2.1.2.1 - e.2.2.2.1.1.2.1) (by omega) (by omega)
   have w3:=dv (n:=e.2.2.2.1.2.1.1+(e.2.1.1 - e.2.2.2.1.1.1)) (by omega) (by omega)
   have w4:=dv (n:=e.2.2.2.1.2.1.2.1+(e.2.1.2.1 - e.2.2.2.1.1.2.1)) (by omega) (by omega)
   rw[k1,w1,w2,w3,w4]
   simp only[Bool.not_true,Bool.false_eq_true,if_false]
   have hto:(e.2.1,(e.2.2.2.1.2.1.1+(e.2.1.1 - e.2.2.2.1.1.1),e.2.2.2.1.2.1.2.1+(e.2.1.2.1 - e.2.2.2.1.1.2.1),()),())=e8 e:=rfl
   rw[hto]
   have hta:cc (e8 e)=ar (e8 e).2.1:=by
    unfold cc
    have h1:(e8 e).1=e.2.1:=rfl
    rw[h1,k2]
    have h2:e.2.1.1≤(e8 e).2.1.1:=by show e.2.1.1≤e.2.2.2.1.2.1.1+(e.2.1.1 - e.2.2.2.1.1.1); omega
    have h3:e.2.1.2.1≤(e8 e).2.1.2.1:=by show e.2.1.2.1≤e.2.2.2.1.2.1.2.1+(e.2.1.2.1 - e.2.2.2.1.1.2.1); omega
    simp[h2,h3]
   rw[hta]
   by_cases k3:ar (e8 e).2.1=true
   ·rw[k3,if_neg (by decide),if_pos (by simp[k2]),qB (by omega)]
    simp only[Option.bind_some]
    have hd:=SQ (s:=s) (a:=e8 e) (by omega)
    have hd':cI s e.2.1 (e.2.2.2.1.2.1.1+(e.2.1.1 - e.2.2.2.1.1.1),e.2.2.2.1.2.1.2.1+(e.2.1.2.1 - e.2.2.2.1.1.2.1),())=some ((dw (e8 e) s,()),(e8 e,())):=hd
    rw[hd']
    simp only[Option.bind_some]
    have hcl:(dw (e8 e) s).length≤s.length:=List.length_filter_le _ _
    have hlp:=HJ (by omega) hs1 (k:=e.1) (q0:=e.2.1) (t0:=e.2.2.1) (a:=e.2.2.2.1) (m:=e.2.2.2.2.1) (n:=e.2.2.2.2.2.1) (c:=e.2.1.1 - e.2.2.2.1.1.1) (r:=e.2.1.2.1 - e.2.2.2.1.1.2.1) (by omega) (by omega) s [] (dw (e8 e) s) rfl (by omega)
    have hlp':lL s (s.length:Int) 0 e.1 e.2.1 e.2.2.1 e.2.2.2.1 e.2.2.2.2.1 e.2.2.2.2.2.1 (e.2.1.1 - e.2.2.2.1.1.1) (e.2.1.2.1 - e.2.2.2.1.1.2.1) (dw (e8 e) s)=_:=hlp
    rw[hlp']
    cases hq:gk e.2.2.2.1 (e.2.1.1 - e.2.2.2.1.1.1) (e.2.1.2.1 - e.2.2.2.1.1.2.1) s with
    | none=>exact⟨_,rfl,fun h=>by cases h⟩
    | some q =>
     have hm:=tW hq
     have hqs:=Dl hsrt hq
     have hqne : ∀ c∈q,c.2.1≠eS:=fun c hc=>by
      obtain⟨x,hx,_,_,g3⟩:=hm.2 c hc
      exact Kq (Gm ((dG.1 hs).2.1 x hx).2 g3)
     have hdis : ∀ c∈dw (e8 e) s,∀ d∈q,c.1≠d.1:=fun c hc d hd he=>by
      obtain⟨x,hx,g1,g2,_⟩:=hm.2 d hd
      have h1:=(List.mem_filter.1 hc).2
      have h2:dg (e8 e) c=true:=by
       unfold rr at g1
       rw[Bool.and_eq_true,bc,bc] at g1
       unfold dg e8
       rw[he,g2]
       unfold tV
       rw[Bool.and_eq_true,bc,bc]
       dsimp only
       omega
      have h3:(!(dg (e8 e) c))=true:=h1
      rw[h2] at h3
      cases h3
     dsimp only
     rw[JM,N7 (by simp; omega)]
     simp only[Option.bind_some]
     have hsrtc:eZ (dw (e8 e) s):=List.Pairwise.filter _ hsrt
     have hso:=RA hsrtc hqne hqs hdis
     have hln:=(AG hqne hqs hdis).length_eq
     rw[←hln]
     by_cases h120:(gw (dw (e8 e) s) q).length≤120
     ·rw[if_pos h120,show decide (((gw (dw (e8 e) s) q).length:Int)≤120)=true by rw[decide_eq_true_eq]; omega]
      exact⟨_,rfl,fun _=>hso⟩
     ·rw[if_neg h120,show decide (((gw (dw (e8 e) s) q).length:Int)≤120)=false by rw[decide_eq_false_iff_not]; omega]
      exact⟨_,rfl,fun h=>by cases h⟩
   ·have k3':ar (e8 e).2.1=false:=by simpa using k3
    rw[k3',if_pos (by decide),if_neg (fun h=>by cases h.2.2)]
    exact⟨_,rfl,fun h=>by cases h⟩
  ·have k2':ar e.2.1=false:=by simpa using k2
   have : ∀ z:ai,cc (e.2.1,z,())=false:=fun z=>by
    unfold cc
    rw[k2']
    rfl
   rw[k1,this,if_neg (by decide),if_pos (by decide),if_neg (fun h=>k2 h.2.1)]
   exact⟨_,rfl,fun h=>by cases h⟩
 ·have k1':pe e.2.2.2.1=false:=by simpa using k1
  rw[k1',if_pos (by decide),if_neg (fun h=>by cases h.1)]
  exact⟨_,rfl,fun h=>by cases h⟩
theorem N9 (e:cF) : ∃ x,A9 s e=some ((x,(tX s e).2,()),())∧((tX s e).2=true→x=(tX s e).1):=by
 obtain⟨hl,hs1,hne,hsrt⟩:=cR hs
 rw[Nb,ya,gB,gB,u5]
 simp only[Option.bind_some]
 unfold tX
 by_cases k1:pe e.2.2.2.1=true
 ·by_cases k2:ar e.2.1=true
  ·have b1:=KC.1 k1
   have b2:=bC.1 b1.1
   have b3:=bC.1 b1.2.1
   have b4:=bC.1 k2
   have w1:=dv (n:=e.2.1.1 - e.2.2.2.1.1.1) (by omega) (by omega)
   have w2:=dv (n:=e.2.1.2.1 - e.2.2.2.1.1.2.1) (by omega) (by omega)
   have w3:=dv (n:=e.2.2.2.1.2.1.1+(e.2.1.1 - e.2.2.2.1.1.1)) (by omega) (by omega)
   have w4:=dv (n:=e.2.2.2.1.2.1.2.1+(e.2.1.2.1 - e.2.2.2.1.1.2.1)) (by omega) (by omega)
   rw[k1,k2,w1,w2,w3,w4]
   simp only[Bool.not_true,Bool.false_eq_true,if_false]
   have hto:(e.2.2.2.1.2.1.1+(e.2.1.1 - e.2.2.2.1.1.1),e.2.2.2.1.2.1.2.1+(e.2.1.2.1 - e.2.2.2.1.1.2.1),())=(e8 e).2.1:=rfl
   rw[hto]
   by_cases k3:ar (e8 e).2.1=true
   ·rw[k3,if_neg (by decide),if_pos (by simp)]
    have hcl:(dw (e8 e) s).length≤s.length:=List.length_filter_le _ _
    have h1:=Fc (by omega) hs1 (k:=e.1) (q0:=e.2.1) (t0:=e.2.2.1) (a:=e.2.2.2.1) (to:=e8 e) (m:=e.2.2.2.2.1) (n:=e.2.2.2.2.2.1) (c:=e.2.1.1 - e.2.2.2.1.1.1) (r:=e.2.1.2.1 - e.2.2.2.1.1.2.1) s [] [] rfl (Nat.le_refl _)
    have h2:=Fd (by omega) hs1 (k:=e.1) (q0:=e.2.1) (t0:=e.2.2.1) (a:=e.2.2.2.1) (m:=e.2.2.2.2.1) (n:=e.2.2.2.2.2.1) (c:=e.2.1.1 - e.2.2.2.1.1.1) (r:=e.2.1.2.1 - e.2.2.2.1.1.2.1) (by omega) (by omega) hne s [] (dw (e8 e) s) rfl (by omega) (by simp) (by omega)
    have h3:lI s (e.2.1.1 - e.2.2.2.1.1.1) (e.2.1.2.1 - e.2.2.2.1.1.2.1) 0 e.1 e.2.1 e.2.2.1 e.2.2.2.1 e.2.2.2.2.1 e.2.2.2.2.2.1 (e.2.2.2.1.2.1.1+(e.2.1.1 - e.2.2.2.1.1.1)) (e.2.2.2.1.2.1.2.1+(e.2.1.2.1 - e.2.2.2.1.1.2.1)) []=_:=h1.trans h2
    rw[h3]
    cases hq:gk e.2.2.2.1 (e.2.1.1 - e.2.2.2.1.1.1) (e.2.1.2.1 - e.2.2.2.1.1.2.1) s with
    | none=>exact⟨_,rfl,fun h=>by cases h⟩
    | some q =>
     dsimp only
     by_cases h120:(gw (dw (e8 e) s) q).length≤120
     ·rw[if_pos h120]
      refine⟨gw (dw (e8 e) s) q,?_,fun _=>rfl⟩
      rw[show decide (((gw (dw (e8 e) s) q).length:Int)≤120)=true by rw[decide_eq_true_eq]; omega]
     ·rw[if_neg h120]
      refine⟨gw (dw (e8 e) s) q,?_,fun h=>by cases h⟩
      rw[show decide (((gw (dw (e8 e) s) q).length:Int)≤120)=false by rw[decide_eq_false_iff_not]; omega]
   ·have k3':ar (e8 e).2.1=false:=by simpa using k3
    rw[k3',if_pos (by decide),if_neg (fun h=>by cases h.2.2)]
    exact⟨_,rfl,fun h=>by cases h⟩
  ·have k2':ar e.2.1=false:=by simpa using k2
   rw[k1,k2',if_neg (by decide),if_pos (by decide),if_neg (fun h=>by cases h.2.1)]
   exact⟨_,rfl,fun h=>by cases h⟩
 ·have k1':pe e.2.2.2.1=false:=by simpa using k1
  rw[k1',if_pos (by decide),if_neg (fun h=>by cases h.1)]
  exact⟨_,rfl,fun h=>by cases h⟩
end
end Go.Proofs.YtddiiceaindlhaaGreatDoor.Abs
set_option linter.unusedVariables false
set_option linter.unusedSimpArgs false
set_option linter.unusedSectionVars false
namespace Go.Proofs.YtddiiceaindlhaaGreatDoor.Abs
open Go
theorem T9 {s:List ab} {q:ai} {x:ByteArray} (h:(xk s q x).2=false):xk s q x=([],false):=by
 unfold xk at h ⊢
 split
 ·rename_i k
  rw[if_pos k] at h
  cases h
 ·rfl
theorem Ua {s:List ab} {e:cF} (h:(tX s e).2=false):tX s e=([],false):=by
 unfold tX at h ⊢
 split
 ·rename_i k
  rw[if_pos k] at h
  cases hm:gk e.2.2.2.1 (e.2.1.1 - e.2.2.2.1.1.1) (e.2.1.2.1 - e.2.2.2.1.1.2.1) s with
  | none=>rfl
  | some q =>
   rw[hm] at h
   dsimp only at h ⊢
   split
   ·rename_i k2
    rw[if_pos k2] at h
    cases h
   ·rfl
 ·rfl
theorem Ub {s:List ab} {e:cF} (h:(AB s e).2=false):AB s e=([],false):=by
 unfold AB at h ⊢
 split
 ·rename_i k
  rw[if_pos k] at h
  cases hm:cp e.2.2.2.2.1 e.2.2.2.2.2.1 (decide (e.1=4)) s with
  | none=>rfl
  | some q=>rw[hm] at h; cases h
 ·rfl
theorem Oa {s:List ab} {e:cF} (h:(lj s e).2=false):lj s e=([],false):=by
 unfold lj at h ⊢
 split
 ·rename_i k
  rw[if_pos k] at h
  exact T9 h
 ·rename_i k
  rw[if_neg k] at h
  split
  ·rename_i k2
   rw[if_pos k2] at h
   split
   ·rename_i k3
    rw[if_pos k3] at h
    cases h
   ·rfl
  ·rename_i k2
   rw[if_neg k2] at h
   split
   ·rename_i k3
    rw[if_pos k3] at h
    exact Ub h
   ·rename_i k3
    rw[if_neg k3] at h
    split
    ·rename_i k4
     rw[if_pos k4] at h
     exact Ua h
    ·rfl
theorem KF (n:Int):qK n=some ((bF n 1 99,()),()):=by
 rw[Pe,jy]
 rfl
section
variable {s:List ab} (hs:aY s=true)
include hs
theorem Qi {r:ai} {x:ByteArray} (hx:x.size≤9223372036854775807):Jt s r x=some (((xk s r x).1,(xk s r x).2,()),()):=by
 obtain⟨hl,hs1,hne,hsrt⟩:=cR hs
 rw[Pd,(tQ hx).1,vG (fun c hc=>(hs1 c hc).1) (by omega),nE]
 simp only[Option.bind_some]
 unfold xk
 rw[hs]
 cases h2:ar r with
 | false=>simp
 | true =>
  cases h3:(eX x).2 with
  | false=>simp
  | true =>
   rw[Lv hsrt (by omega)]
   simp only[Option.bind_some,Bool.not_true,Bool.false_eq_true,if_false]
   by_cases h4:(fi s r (eX x).1).length≤120
   ·rw[av (by omega),if_pos (by simp[h4])]
   ·rw[aD (by omega),if_neg (by simp[h4])]
theorem Qj {e:cF} (hk:e.1=3∨e.1=4):((qK e.2.2.2.2.1).bind fun z5=>(if z5.1.1=true then((qK e.2.2.2.2.2.1).bind fun z6=>(if z6.1.1=true then((zK s e).bind fun z7=>(some (z7.1,(())))) else(some ((([]:(List ab)),false,()),(()))))) else(some ((([]:(List ab)),false,()),(())))))=some (((AB s e).1,(AB s e).2,()),()):=by
 obtain⟨hl,hs1,hne,hsrt⟩:=cR hs
 have hK:vI e.1 (decide (e.1=4)):=by
  rcases hk with h | h
  ·exact .inl ⟨h,by rw[h]; rfl⟩
  ·exact .inr ⟨h,by rw[h]; rfl⟩
 rw[KF,KF]
 simp only[Option.bind_some]
 unfold AB
 cases h1:bF e.2.2.2.2.1 1 99 with
 | false=>simp
 | true =>
  cases h2:bF e.2.2.2.2.2.1 1 99 with
  | false=>simp
  | true =>
   rw[Qg (by omega) hs1 hK (bc.1 h1) (bc.1 h2)]
   simp only[if_true,Option.bind_some,and_self]
   cases cp e.2.2.2.2.1 e.2.2.2.2.2.1 (decide (e.1=4)) s <;> rfl
theorem Qk {e:cF} (hk:e.1=3∨e.1=4):wz s e=some (((AB s e).1,(AB s e).2,()),()):=by
 obtain⟨hl,hs1,hne,hsrt⟩:=cR hs
 have hK:vI e.1 (decide (e.1=4)):=by
  rcases hk with h | h
  ·exact .inl ⟨h,by rw[h]; rfl⟩
  ·exact .inr ⟨h,by rw[h]; rfl⟩
 rw[N6 (by omega) hs1 hK hne]
 unfold AB
 split
 ·cases cp e.2.2.2.2.1 e.2.2.2.2.2.1 (decide (e.1=4)) s <;> rfl
 ·rfl
theorem Cq {e:cF} (hx:e.2.2.1.size≤9223372036854775807) : ∃ x,xR s e=some ((x,(lj s e).2,()),())∧((lj s e).2=true→x=(lj s e).1):=by
 obtain⟨hl,hs1,hne,hsrt⟩:=cR hs
 rw[Lg]
 unfold lj
 by_cases k1:e.1=1
 ·rw[if_pos (by rw[k1]; rfl),if_pos k1,Qi hs hx]
  exact⟨_,rfl,fun _=>rfl⟩
 ·rw[if_neg (by rw[beq_iff_eq]; exact k1),if_neg k1]
  by_cases k2:e.1=2
  ·rw[if_pos (by rw[k2]; rfl),if_pos k2,qB (by omega)]
   simp only[Option.bind_some]
   rw[SM (by omega)]
   simp only[Option.bind_some,lU,u5]
   cases pe e.2.2.2.1 with
   | true=>exact⟨_,rfl,fun _=>rfl⟩
   | false=>exact⟨_,rfl,fun h=>by cases h⟩
  ·rw[if_neg (by rw[beq_iff_eq]; exact k2),if_neg k2]
   by_cases k3:e.1=3
   ·rw[if_pos (by rw[k3]; rfl),if_pos (by rw[k3]; rfl),if_pos (.inl k3),Qj hs (.inl k3)]
    exact⟨_,rfl,fun _=>rfl⟩
   ·rw[if_neg (by rw[beq_iff_eq]; exact k3)]
    by_cases k4:e.1=4
    ·rw[if_pos (by rw[k4]; rfl),if_pos (.inr k4),Qj hs (.inr k4)]
     exact⟨_,rfl,fun _=>rfl⟩
    ·rw[if_neg (by rw[beq_iff_eq]; exact k4),if_neg (c:=e.1=3∨e.1=4) (by omega)]
     by_cases k5:e.1=5
     ·rw[if_pos (by rw[k5]; rfl),if_pos k5]
      obtain⟨x,h1,h2⟩:=N8 hs e
      rw[h1]
      exact⟨x,rfl,h2⟩
     ·rw[if_neg (by rw[beq_iff_eq]; exact k5),if_neg k5]
      exact⟨_,rfl,fun h=>by cases h⟩
theorem Ig {e:cF} (hx:e.2.2.1.size≤9223372036854775807) : ∃ x,xM s e=some ((x,(lj s e).2,()),())∧((lj s e).2=true→x=(lj s e).1):=by
 obtain⟨hl,hs1,hne,hsrt⟩:=cR hs
 rw[HY]
 unfold lj
 by_cases k1:e.1=1
 ·rw[if_pos (by rw[k1]; rfl),if_pos k1,Qa (by omega) (fun c hc=>(hs1 c hc).1) hx]
  exact⟨_,rfl,fun _=>rfl⟩
 ·rw[if_neg (by rw[beq_iff_eq]; exact k1),if_neg k1]
  by_cases k2:e.1=2
  ·rw[if_pos (by rw[k2]; rfl),if_pos k2,ya,u5]
   simp only[Option.bind_some]
   cases pe e.2.2.2.1 with
   | true =>
    rw[if_neg (by decide),if_pos rfl]
    exact⟨_,HE (by omega) s [] [] rfl (Nat.le_refl _),fun _=>by simp⟩
   | false=>exact⟨_,rfl,fun h=>by cases h⟩
  ·rw[if_neg (by rw[beq_iff_eq]; exact k2),if_neg k2]
   by_cases k3:e.1=3
   ·rw[if_pos (by rw[k3]; rfl),if_pos (by rw[k3]; rfl),if_pos (.inl k3),Qk hs (.inl k3)]
    exact⟨_,rfl,fun _=>rfl⟩
   ·rw[if_neg (by rw[beq_iff_eq]; exact k3)]
    by_cases k4:e.1=4
    ·rw[if_pos (by rw[k4]; rfl),if_pos (.inr k4),Qk hs (.inr k4)]
     exact⟨_,rfl,fun _=>rfl⟩
    ·rw[if_neg (by rw[beq_iff_eq]; exact k4),if_neg (c:=e.1=3∨e.1=4) (by omega)]
     by_cases k5:e.1=5
     ·rw[if_pos (by rw[k5]; rfl),if_pos k5]
      obtain⟨x,h1,h2⟩:=N9 hs e
      rw[h1]
      exact⟨x,rfl,h2⟩
     ·rw[if_neg (by rw[beq_iff_eq]; exact k5),if_neg k5]
      exact⟨_,rfl,fun h=>by cases h⟩
end
noncomputable def iE (s:List ab) (e:cF):List ab×Bool:=if aY s=true then lj s e else([],false)
section
variable {s:List ab} (hs : ∀ c∈s,c.2.1.size≤9223372036854775807) (hl:s.length≤2000000)
include hs hl
theorem Cr {e:cF} (hx:e.2.2.1.size≤9223372036854775807):th s e=some (((iE s e).1,(iE s e).2,()),()):=by
 rw[Lh,vG hs (by omega)]
 simp only[Option.bind_some]
 unfold iE
 cases h:aY s with
 | false=>rfl
 | true =>
  obtain⟨x,h1,h2⟩:=Cq h hx
  rw[if_neg (by decide),if_pos rfl,h1]
  simp only[Option.bind_some]
  cases hb:(lj s e).2 with
  | false =>
   rw[Oa hb]
   rfl
  | true =>
   rw[h2 hb]
   rfl
theorem vJ {e:cF} (hx:e.2.2.1.size≤9223372036854775807):s8 s e=some (((iE s e).1,(iE s e).2,()),()):=by
 rw[K6,mB hs (by omega)]
 simp only[Option.bind_some]
 unfold iE
 cases h:aY s with
 | false=>rfl
 | true =>
  obtain⟨x,h1,h2⟩:=Ig h hx
  rw[if_neg (by decide),if_pos rfl,h1]
  simp only[Option.bind_some]
  cases hb:(lj s e).2 with
  | false =>
   rw[Oa hb]
   rfl
  | true =>
   rw[h2 hb]
   rfl
end
theorem Fe {s:List ab} {e:cF} (hx:e.2.2.1.size≤9223372036854775807) (h:(iE s e).2=true):aY s=true∧aY (iE s e).1=true∧iE s e=lj s e:=by
 unfold iE at h ⊢
 cases hs:aY s with
 | false=>rw[hs] at h; cases h
 | true =>
  rw[hs,if_pos rfl] at h
  rw[if_pos rfl]
  exact⟨rfl,E8 hx hs h,rfl⟩
noncomputable def AH (s:List ab) (l:List cF):List ab×Bool:=if aY s=true∧l.length≤360 then(match AC s l with | none=>([],false) | some t=>(t,true)) else([],false)
theorem HK {L:List cF} (hL:L.length≤2000000) (hx : ∀ e∈L,e.2.2.1.size≤9223372036854775807) : ∀(ys pre:List cF) (t:List ab),L=pre++ys→aY t=true→lN L (L.length:Int) (pre.length:Int) t=(match AC t ys with | none=>some (([],false,()),()) | some u=>some ((u,true,()),()))
 | [],pre,t,h,_=>by
  rw[rz,av (bO h)]
  rfl
 | y :: ys,pre,t,h,ht=>by
  have hy:=hx y (by rw[h]; simp)
  obtain⟨x,h1,h2⟩:=Cq ht hy
  rw[rz,aD (bP h),bv h,aX h (by omega),h1]
  simp only[Option.bind_some]
  rw[AC]
  cases hb:(lj t y).2 with
  | false=>rfl
  | true =>
   rw[h2 hb,if_neg (by decide),if_pos rfl]
   exact HK hL hx ys _ _ (aK h) (E8 hy ht hb)
theorem HL {L:List cF} (hL:L.length≤2000000) (hx : ∀ e∈L,e.2.2.1.size≤9223372036854775807) : ∀(ys pre:List cF) (t:List ab),L=pre++ys→aY t=true→lM L (pre.length:Int) t=(match AC t ys with | none=>some (([],false,()),()) | some u=>some ((u,true,()),()))
 | [],pre,t,h,_=>by
  rw[ry,av (bO h)]
  rfl
 | y :: ys,pre,t,h,ht=>by
  have hy:=hx y (by rw[h]; simp)
  obtain⟨hl,hs1,_,_⟩:=cR ht
  rw[ry,aD (bP h),bv h,aX h (by omega),vJ (fun c hc=>(hs1 c hc).1) (by omega) hy]
  simp only[Option.bind_some]
  rw[AC]
  have hr:iE t y=lj t y:=by
   unfold iE
   rw[if_pos ht]
  rw[hr]
  cases hb:(lj t y).2 with
  | false=>rfl
  | true =>
   rw[if_neg (by decide),if_pos rfl]
   exact HL hL hx ys _ _ (aK h) (E8 hy ht hb)
section
variable {s:List ab} (hs : ∀ c∈s,c.2.1.size≤9223372036854775807) (hl:s.length≤2000000) {L:List cF} (hL:L.length≤2000000) (hx : ∀ e∈L,e.2.2.1.size≤9223372036854775807)
include hs hl hL hx
theorem Gs:qr s L=some (((AH s L).1,(AH s L).2,()),()):=by
 rw[FQ,vG hs (by omega)]
 simp only[Option.bind_some]
 unfold AH
 cases h:aY s with
 | false=>simp
 | true =>
  by_cases h2:L.length≤360
  ·rw[if_neg (by decide),av (by omega),if_pos ⟨rfl,h2⟩,qB (by omega)]
   simp only[Option.bind_some]
   have hlp:=HK hL hx L [] s rfl h
   refine hlp.trans ?_
   cases AC s L <;> rfl
  ·rw[if_neg (by decide),aD (by omega),if_neg (fun h=>h2 h.2)]
theorem Gt:vh s L=some (((AH s L).1,(AH s L).2,()),()):=by
 rw[FP,mB hs (by omega)]
 simp only[Option.bind_some]
 unfold AH
 cases h:aY s with
 | false=>simp
 | true =>
  by_cases h2:L.length≤360
  ·rw[if_neg (by decide),av (by omega),if_pos ⟨rfl,h2⟩,bo (by simp only[List.length_nil]; omega),List.nil_append]
   have hlp:=HL hL hx L [] s rfl h
   refine hlp.trans ?_
   cases AC s L <;> rfl
  ·rw[if_neg (by decide),aD (by omega),if_neg (fun h=>h2 h.2)]
end
noncomputable def AI (s:List ab) (e:cF):List cF×Bool:=if(iE s e).2=true then(TR s (iE s e).1,true) else([],false)
theorem Dn {L:List aH} (hL:L.length≤2000000) : ∀(ys pre:List aH) (a b:List cF),L=pre++ys→a.length+ys.length≤2000000→b.length+ys.length≤2000000→tr (L.length:Int) (pre.length:Int) a b L=some ((a++((ys.filter fun c=>decide (c.2.1=eS)).map fun c=>AD c.1 eS)++(b++((ys.filter fun c => !decide (c.2.1=eS)).map fun c=>AD c.1 c.2.1)),true,()),())
 | [],pre,a,b,h,ha,hb=>by
  rw[List.length_nil] at ha hb
  rw[Cg,av (bO h),bo (by omega)]
  simp
 | y :: ys,pre,a,b,h,ha,hb=>by
  rw[List.length_cons] at ha hb
  have hg:List.getD L (Int.toNat (pre.length:Int)) dp.dflt=y:=by rw[h]; exact fU
  rw[Cg,aD (bP h),fJ h,hg,aX h (by omega),jE]
  by_cases k:y.2.1=eS
  ·have k':y.2.1=(⟨#[]⟩:ByteArray):=k
   rw[decide_eq_true k',if_pos rfl,bo (by simp only[List.length_singleton]; omega),Dn hL ys _ _ _ (aK h) (by simp only[List.length_append,List.length_singleton]; omega) (by omega)]
   simp[k,AD,eS]
  ·have k' : ¬y.2.1=(⟨#[]⟩:ByteArray):=k
   rw[decide_eq_false k',if_neg (by decide),bo (by simp only[List.length_singleton]; omega),Dn hL ys _ _ _ (aK h) (by omega) (by simp only[List.length_append,List.length_singleton]; omega)]
   simp[k,AD]
theorem AJ {L:List aH} (hL:L.length≤2000000) : ∀(ys pre:List aH) (a:List cF),L=pre++ys→a.length+ys.length≤2000000→qV (pre.length:Int) a L=some ((a++((ys.filter fun c => !decide (c.2.2.1=eS)).map fun c=>AD c.1 c.2.2.1),true,()),())
 | [],pre,a,h,ha=>by
  rw[zW,av (bO h)]
  simp
 | y :: ys,pre,a,h,ha=>by
  rw[List.length_cons] at ha
  have hg:List.getD L (Int.toNat (pre.length:Int)) dp.dflt=y:=by rw[h]; exact fU
  rw[zW,aD (bP h),fJ h,hg,aX h (by omega),jE]
  by_cases k:y.2.2.1=eS
  ·have k':y.2.2.1=(⟨#[]⟩:ByteArray):=k
   rw[decide_eq_true k',if_neg (by decide),AJ hL ys _ _ (aK h) (by omega)]
   simp[k]
  ·have k' : ¬y.2.2.1=(⟨#[]⟩:ByteArray):=k
   rw[decide_eq_false k',if_pos (by decide),fJ h,fJ h,bo (by simp only[List.length_singleton]; omega),AJ hL ys _ _ (aK h) (by simp only[List.length_append,List.length_singleton]; omega)]
   simp[k,AD]
theorem AK {L:List aH} (hL:L.length≤1000000) : ∀(ys pre:List aH) (a:List cF),L=pre++ys→a.length+ys.length≤1000000→tn (pre.length:Int) a L=some ((a++((ys.filter fun c=>decide (c.2.2.1=eS)).map fun c=>AD c.1 eS)++((L.filter fun c => !decide (c.2.2.1=eS)).map fun c=>AD c.1 c.2.2.1),true,()),())
 | [],pre,a,h,ha=>by
  rw[List.length_nil] at ha
  rw[Ce,av (bO h)]
  have:=AJ (L:=L) (by omega) L [] a rfl (by omega)
  refine this.trans ?_
  simp
 | y :: ys,pre,a,h,ha=>by
  rw[List.length_cons] at ha
  have hg:List.getD L (Int.toNat (pre.length:Int)) dp.dflt=y:=by rw[h]; exact fU
  rw[Ce,aD (bP h),fJ h,hg,aX h (by omega),jE]
  by_cases k:y.2.2.1=eS
  ·have k':y.2.2.1=(⟨#[]⟩:ByteArray):=k
   rw[decide_eq_true k',if_pos rfl,fJ h,bo (by simp only[List.length_singleton]; omega),AK hL ys _ _ (aK h) (by simp only[List.length_append,List.length_singleton]; omega)]
   simp[k,AD,eS]
  ·have k' : ¬y.2.2.1=(⟨#[]⟩:ByteArray):=k
   rw[decide_eq_false k',if_neg (by decide),AK hL ys _ _ (aK h) (by omega)]
   simp[k]
section
variable {s:List ab} (hs : ∀ c∈s,c.2.1.size≤9223372036854775807) (hl:s.length≤2000000) {e:cF} (hx:e.2.2.1.size≤9223372036854775807)
include hs hl hx
theorem RB:Io s e=some (((AI s e).1,(AI s e).2,()),()):=by
 rw[QX,Cr hs hl hx]
 simp only[Option.bind_some]
 unfold AI
 cases hb:(iE s e).2 with
 | false=>rfl
 | true =>
  obtain⟨h1,h2,h3⟩:=Fe hx hb
  have g1:=cR h1
  have g2:=cR h2
  rw[if_neg (by decide),if_pos rfl,Ry (by omega) (by omega)]
  simp only[Option.bind_some]
  have hd:=Df h1 h2
  exact Dn (by omega) (pd s (iE s e).1) [] [] [] rfl (by simp only[List.length_nil]; omega) (by simp only[List.length_nil]; omega)
theorem RC:MO s e=some (((AI s e).1,(AI s e).2,()),()):=by
 rw[QV,vJ hs hl hx]
 simp only[Option.bind_some]
 unfold AI
 cases hb:(iE s e).2 with
 | false=>rfl
 | true =>
  obtain⟨h1,h2,h3⟩:=Fe hx hb
  have g1:=cR h1
  have g2:=cR h2
  rw[if_neg (by decide),if_pos rfl,N2 (by omega) (by omega) (fun c hc=>(g2.2.1 c hc).1) hs]
  simp only[Option.bind_some]
  have hd:=Df h2 h1
  unfold TO
  rw[if_pos ⟨h2,h1⟩]
  have:=AK (L:=pd (iE s e).1 s) (by omega) (pd (iE s e).1 s) [] [] rfl (by simp only[List.length_nil]; omega)
  refine this.trans ?_
  unfold TR
  rw[SI s (iE s e).1]
  simp only[List.filter_map,List.map_map,List.nil_append]
  rfl
end
end Go.Proofs.YtddiiceaindlhaaGreatDoor.Abs
set_option linter.unusedVariables false
set_option linter.unusedSimpArgs false
set_option linter.unusedSectionVars false
namespace Go.Proofs.YtddiiceaindlhaaGreatDoor.Abs
open Go
theorem Cs {s:List cF} {k:Int} (h0:0≤k) (h1:k+10*s.length≤10000000000000) (hl:s.length≤1000000000) : ∃ zs,zs.length=s.length∧oE k s=some ((k+10*s.length,()),(zs,()))∧rX zs k=some ((k+10*s.length,()),()):=by
 obtain⟨zs,e0,e1,e2⟩:=Az (M:=fun k i s=>kp k i s) (H:=fun s k i=>mQ s k i) (w:=10) (by decide) (fun k pre y ys h0 h1 hl=>by
  have hp:pre.length < 1000000000:=by simp only[List.length_append,List.length_cons] at hl; omega
  obtain⟨t,ht⟩:=Cp (k:=k+3) (by omega) (by omega)
  refine⟨(k,(k+1,k+2,()),t,((k+4,k+5,()),(k+6,k+7,()),()),k+8,k+9,()),?_,fun pre' ys' hl' => ?_⟩
  ·rw[q5,aD sU]
   have a1:IntKind.i64.wrap (k+1)=k+1:=wr (by omega) (by omega)
   have a2:IntKind.i64.wrap (k+1+1)=k+2:=by rw[wr (by omega) (by omega)]; omega
   have a3:IntKind.i64.wrap (k+2+1)=k+3:=by rw[wr (by omega) (by omega)]; omega
   have a4:IntKind.i64.wrap (k+3+1)=k+4:=by rw[wr (by omega) (by omega)]; omega
   have a5:IntKind.i64.wrap (k+4+1)=k+5:=by rw[wr (by omega) (by omega)]; omega
   have a6:IntKind.i64.wrap (k+5+1)=k+6:=by rw[wr (by omega) (by omega)]; omega
   have a7:IntKind.i64.wrap (k+6+1)=k+7:=by rw[wr (by omega) (by omega)]; omega
   have a8:IntKind.i64.wrap (k+7+1)=k+8:=by rw[wr (by omega) (by omega)]; omega
   have a9:IntKind.i64.wrap (k+8+1)=k+9:=by rw[wr (by omega) (by omega)]; omega
   have a10:IntKind.i64.wrap (k+9+1)=k+10:=by rw[wr (by omega) (by omega)]; omega
   have b:IntKind.i64.wrap ((pre.length:Int)+1)=(pre.length:Int)+1:=wr (by omega) (by omega)
   simp only[a1,a2,a3,a4,a5,a6,a7,a8,a9,a10,b,ht,Option.bind_some,Mt,Mu]
   rfl
  ·have hp':pre'.length < 1000000000:=by simp only[List.length_append,List.length_cons] at hl'; omega
   rw[tI,aD sU]
   have a1:IntKind.i64.wrap (k+1)=k+1:=wr (by omega) (by omega)
   have a2:IntKind.i64.wrap (k+1+1)=k+2:=by rw[wr (by omega) (by omega)]; omega
   have a3:IntKind.i64.wrap (k+2+1)=k+3:=by rw[wr (by omega) (by omega)]; omega
   have a4:IntKind.i64.wrap (k+3+1)=k+4:=by rw[wr (by omega) (by omega)]; omega
   have a5:IntKind.i64.wrap (k+4+1)=k+5:=by rw[wr (by omega) (by omega)]; omega
   have a6:IntKind.i64.wrap (k+5+1)=k+6:=by rw[wr (by omega) (by omega)]; omega
   have a7:IntKind.i64.wrap (k+6+1)=k+7:=by rw[wr (by omega) (by omega)]; omega
   have a8:IntKind.i64.wrap (k+7+1)=k+8:=by rw[wr (by omega) (by omega)]; omega
   have a9:IntKind.i64.wrap (k+8+1)=k+9:=by rw[wr (by omega) (by omega)]; omega
   have a10:IntKind.i64.wrap (k+9+1)=k+10:=by rw[wr (by omega) (by omega)]; omega
   have b:IntKind.i64.wrap ((pre'.length:Int)+1)=(pre'.length:Int)+1:=wr (by omega) (by omega)
   simp only[Qd,a1,a2,a3,a4,a5,a6,a7,a8,a9,a10,b,ht,Option.bind_some,bne_self_eq_false,beq_self_eq_true,Bool.not_true,Bool.false_eq_true,if_false]
   rfl)
  (fun k pre=>by rw[q5,av (Int.lt_irrefl _)]) (fun k pre=>by rw[tI,av (Int.lt_irrefl _)]) s [] k h0 h1 (by simpa using hl)
 refine⟨zs,e0,?_,?_⟩
 ·rw[Es]
  exact e1
 ·rw[Ic]
  exact e2 [] (by simp; omega)
end Go.Proofs.YtddiiceaindlhaaGreatDoor.Abs
