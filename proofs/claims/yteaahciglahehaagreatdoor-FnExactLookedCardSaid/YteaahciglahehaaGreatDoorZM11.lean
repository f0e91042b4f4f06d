/- Plain laws: the values of all cells, as the program reckons them. -/
import Derived.Test.YteaahciglahehaaGreatDoorZM10
set_option linter.unusedVariables false
set_option linter.unusedSimpArgs false
set_option linter.unusedSectionVars false
namespace Go.Proofs.YteaahciglahehaaGreatDoor.Abs
open Go
theorem gW (s:List ae) (F:Nat→ab):(aY s F).length=s.length:=by
 unfold aY
 rw[List.length_map,List.length_range]
theorem BP {s:List ae} {F:Nat→ab} {i:Nat} (h:i < s.length):(aY s F)[i]? = some (aX s i,F i,()):=by
 unfold aY
 rw[List.getElem?_map,List.getElem?_range h]
 rfl
theorem V7 {s:List ae} {F:Nat→ab} {i:Nat} (h:i < s.length) (d:ah):(aY s F).getD i d=(aX s i,F i,()):=by
 rw[List.getD_eq_getElem?_getD,BP h]
 rfl
theorem DJ {s:List ae} {F G:Nat→ab} (h : ∀ k,k < s.length→F k=G k):aY s F=aY s G:=by
 unfold aY
 refine List.map_congr_left fun k hk => ?_
 rw[h k (List.mem_range.1 hk)]
def Ch (F:Nat→ab) (i:Nat) (v:ab):Nat→ab:=fun k=>if k=i then v else F k
theorem XO {s:List ae} {F:Nat→ab} {i:Nat} (v:ab) (h:i < s.length):(aY s F).set i (aX s i,v,())=aY s (Ch F i v):=by
 apply List.ext_getElem?
 intro k
 rw[List.getElem?_set,gW]
 by_cases e:i=k
 ·subst e
  rw[if_pos rfl,if_pos h,BP h]
  unfold Ch
  rw[if_pos rfl]
 ·rw[if_neg e]
  by_cases hk:k < s.length
  ·rw[BP hk,BP hk]
   unfold Ch
   rw[if_neg (fun x=>e x.symm)]
  ·rw[List.getElem?_eq_none (by rw[gW]; omega),List.getElem?_eq_none (by rw[gW]; omega)]
theorem Gj {β:Type} {s:List ae} {F:Nat→ab} {i:Nat} (v:ab) (h:i < s.length) (k:List ah→β):fH aq.dflt (aY s F) (i:Int) (fun e=>(e.1,v,())) k=k (aY s (Ch F i v)):=by
 unfold fH
 rw[Int.toNat_natCast,V7 h,XO v h]
theorem Fi (s:List ae) (F:Nat→ab):(aY s F).map (·.1)=s.map (·.1):=by
 have key : ∀ t:List ae,(List.range s.length).map (fun i=>s.getD i aj.dflt)=t→(aY s F).map (·.1)=t.map (·.1):=by
  rintro _ rfl
  unfold aY
  rw[List.map_map,List.map_map]
  rfl
 exact key s (DH s _)
theorem kQ {s:List ae} {F:Nat→ab} (hs:bz s=true) (hF : ∀ k,k < s.length→ax (F k)=true):lA (aY s F)=true:=by
 have h1:=bn hs
 have h2:=gi hs
 have h3:=(ox.1 hs).2.1
 unfold lA
 rw[Bool.and_eq_true,Bool.and_eq_true,decide_eq_true_eq,List.all_eq_true,gW,Fi]
 refine⟨by omega,fun c hc => ?_,OF ?_ (fun a e=>by cases e)⟩
 ·unfold aY at hc
  obtain⟨k,hk,rfl⟩:=List.mem_map.1 hc
  have hk:=List.mem_range.1 hk
  rw[Bool.and_eq_true]
  exact⟨(h3 _ (sc hk)).1,hF k hk⟩
 ·exact List.Pairwise.map _ (fun a b h=>h) h2
theorem V8 (w:al):ax (bB w).1=true:=by
 cases h:(bB w).2 with
 | true=>exact(ph h).1
 | false =>
  rw[N8 h]
  exact NP
theorem DK {f:List aa} {l:List ah} (h1:fF f=true) (h2:lA l=true):ax (fK f l)=true:=by
 have hs:=tH h1
 have hll:l.length≤120:=by
  unfold lA at h2
  simp only[Bool.and_eq_true,decide_eq_true_eq] at h2
  omega
 have hv:=pM h2
 have hl:=hs.1
 obtain⟨_,_,e3⟩:=Ga (f:=f) (l:=l) (by omega) (fun c hc=>Nat.le_trans (dD (hv c hc)) (by decide)) (by omega) hs.2.1 hs.2.2 h1 h2
 unfold fK
 dsimp only
 split
 ·decide
 ·exact e3
theorem Ij {α β:Type} {xs:List α} {i:Int} {k:Option β} (h : ¬(0≤i∧i < (xs.length:Int))):inb xs i k=none:=by
 unfold inb
 by_cases h0:0≤i
 ·rw[if_pos h0,if_neg fun h1=>h ⟨h0,h1⟩]
 ·rw[if_neg h0]
theorem V9 (g:List ae×(List (List aa)×(List (List Int)×Unit))) : ∀(n:Nat) (i:Int) (done:List Bool) (out:List ah),done.count false≤n→cB i g.1 g.2.1 g.2.2.1 done out=bD i g done out:=by
 intro n
 induction n with
 | zero =>
  intro i done out hc
  rw[gE,cf]
  by_cases hin:0≤i∧i < (done.length:Int)
  ·simp only[bC hin.1 hin.2]
   by_cases hd:List.getD done i.toNat false=true
   ·rw[if_pos hd,if_pos hd]
   ·have:=vd done i.toNat (by omega) (by simpa using hd)
    omega
  ·rw[Ij hin,Ij hin]
 | succ n ih =>
  intro i done out hc
  rw[gE,cf]
  by_cases hin:0≤i∧i < (done.length:Int)
  ·simp only[bC hin.1 hin.2]
   by_cases hd:List.getD done i.toNat false=true
   ·rw[if_pos hd,if_pos hd]
   ·have hcs:=vd done i.toNat (by omega) (by simpa using hd)
    have key : ∀ y5:List Int,d8 i y5 (y5.length:Int) 0 g.1 g.2.1 g.2.2.1 (done.set i.toNat true) out=cd i y5 (y5.length:Int) 0 g (done.set i.toNat true) out:=by
     intro y5
     rw[ly,fC]
     have k2 : ∀ y,cB y g.1 g.2.1 g.2.2.1 (done.set i.toNat true) out=bD y g (done.set i.toNat true) out:=fun y=>ih y _ out (by omega)
     simp only[k2]
    simp only[key]
  ·rw[Ij hin,Ij hin]
theorem Y7 {x0:Int} {x1:List Int} {x2 x3:Int} {g:List ae×(List (List aa)×(List (List Int)×Unit))} {done:List Bool} {out:List ah}:cd x0 x1 x2 x3 g done out=bM x0 x1 x2 x3 g done out:=by
 rw[fC,dr]
section
variable {s:List ae} (hs:bz s=true) {told:Nat→Bool} {given:Nat→ab}
include hs
theorem ej (i:Nat):(ga s i).size≤9223372036854775807:=by
 by_cases h:i < s.length
 ·exact Nat.le_trans (rk hs _ (sc h)) (by decide)
 ·unfold ga
  rw[List.getD_eq_getElem?_getD,List.getElem?_eq_none (by omega)]
  decide
structure Gk (s:List ae) (told:Nat→Bool) (given:Nat→ab) (P:Nat→Prop) (done:List Bool) (F:Nat→ab):Prop where
 len:done.length=s.length
 val : ∀ k,k < s.length→done.getD k false=true→P k∨F k=db s told given k
 ok : ∀ k,k < s.length→ax (F k)=true
 told : ∀ k,k < s.length→told k=true→done.getD k false=true
structure BQ (s:List ae) (done done':List Bool):Prop where
 cnt:done'.count false≤done.count false
 mono : ∀ k,done.getD k false=true→done'.getD k false=true
omit hs in
theorem BQ.trans {s:List ae} {a b c:List Bool} (h:BQ s a b) (k:BQ s b c):BQ s a c:=⟨Nat.le_trans k.cnt h.cnt,fun j hj=>k.mono j (h.mono j hj)⟩
def Z7 (s:List ae) (told:Nat→Bool) (given:Nat→ab) (n:Nat):Prop := ∀(i:Nat) (P:Nat→Prop) (done:List Bool) (F:Nat→ab),i < s.length→Gk s told given P done F→(∀ p,P p → ¬dU (bR s) p p∧dU (bR s) p i)→done.count false≤n →
 ∃ done' F',bD (i:Int) (gr s) done (aY s F)=some ((()),(done',gr s,aY s F',()))∧Gk s told given P done' F'∧BQ s done done'∧done'.getD i false=true
theorem XP {f:List aa} {F:Nat→ab} {i:Nat} (hf:cR (ga s i)=some f) (ho : ∀ k,k < s.length→ax (F k)=true) (h : ∀ k∈bR s i,F k=db s told given k) (ht:told i=false) (hr : ¬dU (bR s) i i):uF f (aY s F)=some ((db s told given i,()),()):=by
 have hok:=kP hf (ej hs i)
 have hsm:=tH hok
 have hl:=hsm.1
 have hn:=bn hs
 have hv:=kQ hs ho
 have e:fK f (aY s F)=db s told given i:=by
  rw[BN (ej hs i) hf h,r9 (ej hs) i,if_neg (by simp[ht]),hf]
  simp only[if_neg hr]
 rw[N3 (by rw[gW]; omega) (fun c hc=>Nat.le_trans (dD (pM hv c hc)) (by decide)) (by omega) hsm.2.1 hsm.2.2 hok hv,e]
theorem La {n:Nat} (R:Z7 s told given n) {i:Nat} (hi:i < s.length) {f:List aa} (hf:cR (ga s i)=some f) (hr : ¬dU (bR s) i i) (ht:told i=false) {P:Nat→Prop} (hP : ∀ p,P p → ¬dU (bR s) p p∧dU (bR s) p i) :
  ∀(ys pre:List Nat) (done:List Bool) (F:Nat→ab),bR s i=pre++ys→Gk s told given (fun k=>P k∨k=i) done F→done.count false≤n→(∀ k∈pre,done.getD k false=true)→done.getD i false=true →
  ∃ done' F',bM (i:Int) ((bR s i).map fun k:Nat=>(k:Int)) ((bR s i).length:Int) (pre.length:Int) (gr s) done (aY s F)=some ((()),(done',gr s,aY s F',()))∧Gk s told given P done' F'∧BQ s done done'∧done'.getD i false=true
 | [],pre,done,F,h,hI,hc,hp,hdi=>by
  have hpre:bR s i=pre:=by rw[h]; simp
  have hval : ∀ k∈bR s i,F k=db s told given k:=by
   intro k hk
   have hk':k∈pre:=hpre ▸ hk
   rcases hI.val k (mJ hk) (hp k hk') with(e | e) | e
   ·exact absurd (dU.more (hP k e).2 hk) (hP k e).1
   ·rw[e] at hk
    exact absurd (dU.one hk) hr
   ·exact e
  have hev:=XP hs hf hI.ok hval ht hr
  have hv:ax (db s told given i)=true:=by
   have:=DK (kP hf (ej hs i)) (kQ hs hI.ok)
   rw[BN (ej hs i) hf hval] at this
   rw[r9 (ej hs) i,if_neg (by simp[ht]),hf]
   simp only[if_neg hr]
   exact this
  refine⟨done,Ch F i (db s told given i),?_,⟨hI.len,fun k hk hd => ?_,fun k hk => ?_,hI.told⟩,⟨Nat.le_refl _,fun _ h=>h⟩,hdi⟩
  ·rw[dr,aA (by rw[hpre]; omega)]
   show(ix (gF s) (i:Int) ([]:(List aa)) fun y2=>((uF y2 (aY s F)).bind fun z2=>(inb (aY s F) (i:Int) (fH (aq.dflt) (aY s F) (i:Int) (fun e=>(e.1,z2.1.1,())) fun w3=>(some ((()),(done,gr s,w3,())))))))=_
   rw[tI (Yn hi),hf]
   show((uF f (aY s F)).bind fun z2=>_)=_
   rw[hev,Option.bind_some,bC (nn _) (by rw[gW]; omega),Gj _ hi]
  ·unfold Ch
   by_cases e:k=i
   ·rw[if_pos e,e]
    exact .inr rfl
   ·rw[if_neg e]
    rcases hI.val k hk hd with(h1 | h1) | h1
    ·exact .inl h1
    ·exact absurd h1 e
    ·exact .inr h1
  ·unfold Ch
   by_cases e:k=i
   ·rw[if_pos e]
    exact hv
   ·rw[if_neg e]
    exact hI.ok k hk
 | y :: ys,pre,done,F,h,hI,hc,hp,hdi=>by
  have hy:y∈bR s i:=by rw[h]; simp
  have hyl:=mJ hy
  have hil:(bR s i).length≤s.length:=AC s (K7 s i)
  have hn:=bn hs
  have hlt:((pre.length:Nat):Int) < ((bR s i).length:Int):=bu h
  have hw:IntKind.i64.wrap ((pre.length:Int)+1)=((pre++[y]).length:Int):=aJ h (by omega)
  have hg:((bR s i).map fun k:Nat=>(k:Int))[pre.length]? = some (y:Int):=by
   rw[h]
   simp
  obtain⟨done1,F1,e1,I1,N1,d1⟩:=R y (fun k=>P k∨k=i) done F hyl hI (fun p hp'=>by
   rcases hp' with hp' | hp'
   ·exact⟨(hP p hp').1,.more (hP p hp').2 hy⟩
   ·rw[hp']
    exact⟨hr,.one hy⟩) hc
  obtain⟨done2,F2,e2,I2,N2,d2⟩:=La R hi hf hr ht hP ys (pre++[y]) done1 F1 (az h) I1 (Nat.le_trans N1.cnt hc) (fun k hk=>by
   rcases List.mem_append.1 hk with hk | hk
   ·exact N1.mono k (hp k hk)
   ·rw[List.mem_singleton.1 hk]
    exact d1) (N1.mono i hdi)
  refine⟨done2,F2,?_,I2,N1.trans N2,d2⟩
  rw[dr,aB hlt,tI hg,e1,Option.bind_some,hw]
  exact e2
theorem XQ : ∀ n:Nat,Z7 s told given n:=by
 intro n
 induction n with
 | zero =>
  intro i P done F hi hI hP hc
  by_cases hd:done.getD i false=true
  ·refine⟨done,F,?_,hI,⟨Nat.le_refl _,fun _ h=>h⟩,hd⟩
   rw[cf,bC (nn _) (by rw[hI.len]; omega),Int.toNat_natCast,if_pos hd]
  ·have:=vd done i (by rw[hI.len]; exact hi) (by simpa using hd)
   omega
 | succ n R =>
  intro i P done F hi hI hP hc
  by_cases hd:done.getD i false=true
  ·refine⟨done,F,?_,hI,⟨Nat.le_refl _,fun _ h=>h⟩,hd⟩
   rw[cf,bC (nn _) (by rw[hI.len]; omega),Int.toNat_natCast,if_pos hd]
  ·have hil:i < done.length:=by rw[hI.len]; exact hi
   have hd':done.getD i false=false:=by simpa using hd
   have hcs:=vd done i hil hd'
   have ht:told i=false:=by
    rw[Bool.eq_false_iff]
    intro h
    exact hd (hI.told i hi h)
   have hset:(done.set i true).getD i false=true:=by rw[sd _ _ _ hil,if_pos rfl]
   have hnext:BQ s done (done.set i true):=⟨by omega,fun k hk=>by
    rw[sd _ _ _ hil]
    split
    ·rfl
    ·exact hk⟩
   have hstep : ∀ v,ax v=true→v=db s told given i→Gk s told given P (done.set i true) (Ch F i v):=by
    intro v hv ev
    refine⟨by rw[List.length_set]; exact hI.len,fun k hk hdk => ?_,fun k hk => ?_,fun k hk htk=>hnext.mono k (hI.told k hk htk)⟩
    ·unfold Ch
     rw[sd _ _ _ hil] at hdk
     by_cases e:k=i
     ·rw[if_pos e,e]
      exact .inr ev
     ·rw[if_neg e] at hdk ⊢
      exact hI.val k hk hdk
    ·unfold Ch
     by_cases e:k=i
     ·rw[if_pos e]
      exact hv
     ·rw[if_neg e]
      exact hI.ok k hk
   have hve:=r9 (told:=told) (given:=given) (ej hs) i
   rw[if_neg (by simp[ht])] at hve
   have heq:bD (i:Int) (gr s) done (aY s F)=ix (gF s) (i:Int) ([]:(List aa)) fun y1=>(if((List.length y1:Int) == 0)=true then(ix s (i:Int) (aj.dflt) fun y2=>((eG y2.2.1).bind fun z1=>(inb (aY s F) (i:Int) (fH (aq.dflt) (aY s F) (i:Int) (fun e=>(e.1,z1.1.1,())) fun w3=>(some ((()),((List.set done i true),gr s,w3,()))))))) else((kV (gr s) (i:Int)).bind fun z2=>(if z2.1.1=true then((gm 5).bind fun z3=>(inb (aY s F) (i:Int) (fH (aq.dflt) (aY s F) (i:Int) (fun e=>(e.1,z3.1.1,())) fun w4=>(some ((()),((List.set done i true),gr s,w4,())))))) else(ix (gL s) (i:Int) ([]:(List Int)) fun y5=>(cd (i:Int) y5 (List.length y5:Int) 0 (gr s) (List.set done i true) (aY s F)))))):=by
    rw[cf,bC (nn _) (by omega),Int.toNat_natCast,hd',if_neg (by decide),bC (nn _) (by omega)]
    rfl
   rw[heq,tI (Yn hi)]
   cases hf:cR (ga s i) with
   | none =>
    rw[hf] at hve
    have hsz:=ej hs i
    have hsz2:(ga s i).size≤200:=rk hs _ (sc hi)
    have hrv:eG (ga s i)=some (((bB (lb (ga s i))).1,(bB (lb (ga s i))).2,()),()):=by
     have:=oO (w:=lb (ga s i)) (by rw[jk]; omega)
     rw[d9] at this
     exact this
    refine⟨done.set i true,Ch F i (bB (lb (ga s i))).1,?_,hstep _ (V8 _) hve.symm,hnext,hset⟩
    dsimp only[Option.getD_none]
    rw[if_pos (by rfl),tI (pQ (d:=aj.dflt) hi)]
    show((eG (ga s i)).bind fun z1=>_)=_
    rw[hrv,Option.bind_some,bC (nn _) (by rw[gW]; omega),Gj _ hi]
   | some f =>
    rw[hf] at hve
    have hok:=kP hf (ej hs i)
    have hfl:1≤f.length:=by
     have hb:cg (f.length:Int) 1 60=true:=by
      unfold fF at hok
      simp only[Bool.and_eq_true] at hok
      exact hok.1
     have:=bw.1 hb
     omega
    dsimp only[Option.getD_some]
    rw[if_neg (by rw[beq_iff_eq]; omega),V5 (bn hs) hi,Option.bind_some]
    dsimp only
    by_cases hr:dU (bR s) i i
    ·simp only[if_pos hr] at hve
     refine⟨done.set i true,Ch F i (vE 5),?_,hstep _ (oJ (by decide) (by decide)) hve.symm,hnext,hset⟩
     rw[mI.2 hr,if_pos rfl,il,Option.bind_some,bC (nn _) (by rw[gW]; omega),Gj _ hi]
    ·have hrb:yM s i=false:=by
      rw[Bool.eq_false_iff,ne_eq,mI]
      exact hr
     have hI':Gk s told given (fun k=>P k∨k=i) (done.set i true) F:=by
      refine⟨by rw[List.length_set]; exact hI.len,fun k hk hdk => ?_,hI.ok,fun k hk htk=>hnext.mono k (hI.told k hk htk)⟩
      rw[sd _ _ _ hil] at hdk
      by_cases e:k=i
      ·exact .inl (.inr e)
      ·rw[if_neg e] at hdk
       rcases hI.val k hk hdk with h1 | h1
       ·exact .inl (.inl h1)
       ·exact .inr h1
     obtain⟨done',F',e1,I1,N1,d1⟩:=La hs R hi hf hr ht hP (bR s i) [] (done.set i true) F rfl hI' (by omega) (fun k hk=>by cases hk) hset
     refine⟨done',F',?_,I1,hnext.trans N1,d1⟩
     rw[hrb,if_neg (by decide),tI (TO hi),Y7,List.length_map]
     exact e1
theorem O1 : ∀(m i:Nat) (done:List Bool) (F:Nat→ab),i+m=s.length→Gk s told given (fun _=>False) done F→(∀ k,k < i→done.getD k false=true) →
  gu (s.length:Int) (i:Int) (aY s F) (gr s) done=some ((aY s (db s told given),()),())
 | 0,i,done,F,h,hI,hd=>by
  rw[kg,aA (by omega)]
  rw[DJ fun k hk=>(hI.val k hk (hd k (by omega))).resolve_left id]
 | m+1,i,done,F,h,hI,hd=>by
  have hn:=bn hs
  obtain⟨done',F',e1,I1,N1,d1⟩:=XQ hs (told:=told) (given:=given) (done.count false) i (fun _=>False) done F (by omega) hI (fun p hp=>hp.elim) (Nat.le_refl _)
  rw[kg,aB (by omega),e1,Option.bind_some,fE (by omega) (by omega)]
  have:=O1 m (i+1) done' F' (by omega) I1 (fun k hk=>by
   by_cases e:k=i
   ·rw[e]
    exact d1
   ·exact N1.mono k (hd k (by omega)))
  exact this
theorem TR {done:List Bool} {F:Nat→ab}:jU (s.length:Int) 0 (aY s F) s (gF s) (gL s) done=gu (s.length:Int) 0 (aY s F) (gr s) done:=by
 rw[Bq,kg]
 have:=V9 (gr s) (done.count false) 0 done (aY s F) (Nat.le_refl _)
 rw[←this]
 rfl
theorem Ql {l:List Bool} (h:l.length≤1000000):iJ l=some ((l,()),()):=by
 rw[tq]
 unfold dd
 simp only[i8?,dite_true,Option.bind_some]
 exact if_pos (by omega)
theorem O2 {gv:List ab} (hg:gv.length=s.length) {td:List Bool} : ∀(ys pre:List ae) (o:List ah),s=pre++ys→o.length=ys.length →
  iM gv s (s.length:Int) (pre.length:Int) s (gF s) (gL s) td (((List.range pre.length).map fun k=>(aX s k,gv.getD k v0,()))++o)=jU (s.length:Int) 0 (aY s fun k=>gv.getD k v0) s (gF s) (gL s) td
 | [],pre,o,h,ho=>by
  have e:pre=s:=by rw[h]; simp
  rw[ru,aA (bj h),List.eq_nil_of_length_eq_zero ho,List.append_nil,List.length_map,List.length_range,e]
  rfl
 | y :: ys,pre,o,h,ho=>by
  have hn:=bn hs
  have hlen:s.length=pre.length+(ys.length+1):=by rw[h]; simp
  cases o with
  | nil=>cases ho
  | cons z o =>
   have e0:((List.range pre.length).map fun k=>(aX s k,gv.getD k v0,())).length=pre.length:=by rw[List.length_map,List.length_range]
   have hi:pre.length < gv.length:=by omega
   rw[ru,aB (bu h),br h,tI (pQ (d:=v0) hi),bC (nn _) (by simp only[List.length_append,List.length_cons,List.length_map,List.length_range]; omega),aJ h (by omega)]
   have ih:=O2 hg (td:=td) ys (pre++[y]) o (az h) (by simpa using ho)
   have e1:List.set (((List.range pre.length).map fun k=>(aX s k,gv.getD k v0,()))++z :: o) (Int.toNat (pre.length:Int)) (y.1,gv.getD (Int.toNat (pre.length:Int)) v0,())=((List.range (pre++[y]).length).map fun k=>(aX s k,gv.getD k v0,()))++o:=by
    have:=CJ (l:=(List.range pre.length).map fun k=>((aX s k,gv.getD k v0,()):ah)) (r:=o) (y:=z) (z:=(y.1,gv.getD (Int.toNat (pre.length:Int)) v0,()))
    rw[e0] at this
    rw[this,List.length_append,List.length_singleton,List.range_succ,List.map_append,List.append_assoc,List.map_singleton,V2 h]
    rfl
   refine Eq.trans ?_ ih
   exact congrArg _ e1
theorem Qm {td:List Bool} {gv:List ab} (h1:td.length=s.length) (h2:gv.length=s.length) (h3 : ∀ v∈gv,ax v=true) (ht : ∀ k,k < s.length→told k=td.getD k false) (hg : ∀ k,k < s.length→given k=gv.getD k v0):tQ (gr s) td gv=some ((aY s (db s told given),()),()):=by
 have hn:=bn hs
 rw[FX,Ql hs (by omega),Option.bind_some]
 show(EJ (s.length:Int) 48 (aq.dflt) fun y1=>(iM gv s (s.length:Int) 0 s (gF s) (gL s) td y1))=_
 rw[zN (by omega)]
 have:=O2 hs h2 (td:=td) s [] (List.replicate s.length aq.dflt) rfl (by simp)
 refine Eq.trans this ?_
 rw[TR hs]
 refine O1 hs s.length 0 td _ (by omega) ⟨h1,fun k hk hd => .inr ?_,fun k hk => ?_,fun k hk h=>by rw[←ht k hk]; exact h⟩ (fun k hk=>by omega)
 ·rw[r9 (ej hs) k,if_pos (by rw[ht k hk]; exact hd),hg k hk]
 ·exact h3 _ (sc (by omega))
end
def dG (s:List ae) (V:Nat→ab) (pend:List Nat):List ah:=((List.range s.length).filter fun k => !decide (k∈pend)).map fun k=>(aX s k,V k,())
theorem BR (s:List ae) (V:Nat→ab) (pend:List Nat):(dG s V pend).Sublist (aY s V):=List.Sublist.map _ List.filter_sublist
theorem XR (s:List ae) (V:Nat→ab):dG s V []=aY s V:=by
 unfold dG aY
 rw[List.filter_eq_self.2 fun k hk=>by simp]
theorem Gl {s:List ae} {V:Nat→ab} {pend:List Nat} {c:ah}:c∈dG s V pend ↔ ∃ k,k < s.length∧k ∉ pend∧(aX s k,V k,())=c:=by
 unfold dG
 rw[List.mem_map]
 constructor
 ·rintro⟨k,hk,e⟩
  rw[List.mem_filter,List.mem_range] at hk
  exact⟨k,hk.1,by simpa using hk.2,e⟩
 ·rintro⟨k,h1,h2,e⟩
  exact⟨k,List.mem_filter.2 ⟨List.mem_range.2 h1,by simpa using h2⟩,e⟩
theorem XS {l m:List ah} (hs:l.Sublist m) (h:lA m=true):lA l=true:=by
 unfold lA at h ⊢
 simp only[Bool.and_eq_true,decide_eq_true_eq,List.all_eq_true] at h ⊢
 obtain⟨h1,h2,h3⟩:=h
 have hl:=hs.length_le
 refine⟨by omega,fun c hc=>h2 c (hs.subset hc),?_⟩
 exact OF (List.Pairwise.sublist (List.Sublist.map _ hs) (Vq h3)) (fun a e=>by cases e)
theorem Y8 {s:List ae} {V:Nat→ab} (h:jO s):(aY s V).Pairwise fun a b=>ck a.1 b.1=true:=by
 have h1:((aY s V).map (·.1)).Pairwise fun a b=>ck a b=true:=by
  rw[Fi]
  exact List.Pairwise.map _ (fun a b h=>h) h
 exact List.pairwise_map.1 h1
theorem XT {s:List ae} {V:Nat→ab} {pend:List Nat} {ar:List ag} (h : ∀ k∈uf s ar,k ∉ pend):kk ar (dG s V pend)=kk ar (aY s V):=by
 unfold kk dG aY
 rw[List.filter_map,List.filter_map,List.filter_filter]
 congr 1
 refine List.filter_congr fun k hk => ?_
 show((ar.any fun a=>dJ a (aX s k)) && !decide (k∈pend))=ar.any fun a=>dJ a (aX s k)
 cases hc:(ar.any fun a=>dJ a (aX s k)) with
 | false=>rfl
 | true =>
  have:=h k (RA.2 ⟨List.mem_range.1 hk,hc⟩)
  simp[this]
def wJ (c:ah):List ah→List ah
 | []=>[c]
 | y :: ys=>if jx y.1 c.1=true then y :: wJ c ys else c :: y :: ys
theorem DL (c:ah) : ∀ l:List ah,(wJ c l).Perm (c :: l)
 | [] => .refl _
 | y :: ys=>by
  unfold wJ
  split
  ·exact((DL c ys).cons y).trans (.swap c y ys)
  ·exact .refl _
theorem RD {c:ah} : ∀ {l:List ah},(l.Pairwise fun a b=>ck a.1 b.1=true)→(∀ y∈l,y.1≠c.1)→(wJ c l).Pairwise fun a b=>ck a.1 b.1=true
 | [],_,_=>by simp[wJ]
 | y :: ys,h,hn=>by
  have h':=List.pairwise_cons.1 h
  unfold wJ
  by_cases k:jx y.1 c.1=true
  ·rw[if_pos k]
   refine List.pairwise_cons.2 ⟨fun z hz => ?_,RD h'.2 fun z hz=>hn z (List.mem_cons_of_mem _ hz)⟩
   rcases List.mem_cons.1 ((DL c ys).mem_iff.1 hz) with rfl | hz
   ·exact k
   ·exact h'.1 z hz
  ·rw[if_neg k]
   have hc:ck c.1 y.1=true:=by
    rcases yJ y.1 c.1 with e | e | e
    ·exact absurd e k
    ·exact absurd e (hn y (by simp))
    ·exact e
   refine List.pairwise_cons.2 ⟨fun z hz => ?_,h⟩
   rcases List.mem_cons.1 hz with rfl | hz
   ·exact hc
   ·exact lq hc (h'.1 z hz)
theorem O3 {l:List ah} {c:ah} (hl:l.length≤1000000) : ∀(ys pre:List ah),l=pre++ys→xm l (pre.length:Int) c.1 c.2.1=some ((pre++wJ c ys,()),())
 | [],pre,h=>by
  have hlen:l.length=pre.length:=by rw[h]; simp
  rw[Dc,aA (bj h),Na (nn _) (by omega),bd (by simp only[List.length_nil,List.length_take]; omega),bd (by simp only[List.length_append,List.length_nil,List.length_take,List.length_singleton]; omega),Hj (nn _) (by omega),bd (by simp only[List.length_append,List.length_nil,List.length_take,List.length_singleton,List.length_drop]; omega)]
  rw[h]
  simp[wJ]
 | y :: ys,pre,h=>by
  have hlen:l.length=pre.length+(ys.length+1):=by rw[h]; simp
  rw[Dc,aB (bu h),br h,Ds,Option.bind_some]
  dsimp only
  unfold wJ
  by_cases k:jx y.1 c.1=true
  ·rw[if_pos k,if_pos k,aJ h (by omega),O3 hl ys _ (az h)]
   simp
  ·rw[if_neg k,if_neg k,Na (nn _) (by omega),bd (by simp only[List.length_nil,List.length_take]; omega),bd (by simp only[List.length_append,List.length_nil,List.length_take,List.length_singleton]; omega),Hj (nn _) (by omega),bd (by simp only[List.length_append,List.length_nil,List.length_take,List.length_singleton,List.length_drop]; omega)]
   rw[h]
   simp
theorem Wa {l:List ah} (c:ah) (hl:l.length≤1000000):kT l c=some ((wJ c l,()),()):=by
 rw[U3]
 exact O3 hl l [] rfl
theorem XU {s:List ae} {V:Nat→ab} (hs:jO s) {p q:List Nat} {j:Nat} (hj:j < s.length) (hp:j∈p) (hq : ∀ k,k∈q↔k∈p∧k≠j):wJ (aX s j,V j,()) (dG s V p)=dG s V q:=by
 have pw:=fun r=>List.Pairwise.sublist (BR s V r) (Y8 (V:=V) hs)
 refine VV (lt:=fun a b:ah=>ck a.1 b.1) (fun x=>wE _) (fun x y z h k=>lq h k) (RD (pw p) fun y hy => ?_) (pw q) fun y => ?_
 ·obtain⟨k,h1,h2,rfl⟩:=Gl.1 hy
  intro e
  have:=Js hs h1 hj e
  exact h2 (this ▸ hp)
 ·rw[(DL _ _).mem_iff,List.mem_cons,Gl,Gl]
  constructor
  ·rintro(rfl | ⟨k,h1,h2,rfl⟩)
   ·exact⟨j,hj,fun h=>((hq j).1 h).2 rfl,rfl⟩
   ·exact⟨k,h1,fun h=>h2 ((hq k).1 h).1,rfl⟩
  ·rintro⟨k,h1,h2,rfl⟩
   by_cases e:k=j
   ·subst e
    exact .inl rfl
   ·exact .inr ⟨k,h1,fun h=>h2 ((hq k).2 ⟨h,e⟩),rfl⟩
section
variable {s:List ae} (hs:bz s=true) {told:Nat→Bool} {given:Nat→ab} (hg : ∀ k,k < s.length→ax (given k)=true)
include hs hg
theorem RE : ∀(n k:Nat),k < s.length→ax (lB s told given n k)=true
 | 0,k,hk=>NP
 | n+1,k,hk=>by
  unfold lB
  split
  ·exact hg k hk
  ·cases hf:cR (ga s k) with
   | none=>exact V8 _
   | some f =>
    dsimp only
    split
    ·exact oJ (by decide) (by decide)
    ·exact DK (kP hf (ej hs k)) (kQ hs fun j hj=>RE n j hj)
theorem RF {k:Nat} (hk:k < s.length):ax (db s told given k)=true:=RE hs hg _ k hk
theorem Y9 (p:List Nat):lA (dG s (db s told given) p)=true:=XS (BR _ _ _) (kQ hs fun k hk=>RF hs hg hk)
theorem Wb {f:List aa} {i:Nat} {p:List Nat} (hf:cR (ga s i)=some f) (h : ∀ k∈bR s i,k ∉ p) (ht:told i=false) (hr : ¬dU (bR s) i i):uB f (dG s (db s told given) p)=some ((db s told given i,()),()):=by
 have hok:=kP hf (ej hs i)
 have hsm:=tH hok
 have hl:=hsm.1
 have hn:=bn hs
 have hv:=Y9 (told:=told) hs hg p
 have hdl:=(BR s (db s told given) p).length_le
 rw[gW] at hdl
 have e:fK f (dG s (db s told given) p)=db s told given i:=by
  rw[r9 (ej hs) i,if_neg (by simp[ht]),hf]
  simp only[if_neg hr]
  refine K8 hok (XT fun k hk=>h k ?_)
  unfold bR K7
  rw[hf]
  exact hk
 rw[N0 (by omega) (fun c hc=>Nat.le_trans (dD (pM hv c hc)) (by decide)) (by omega) hsm.2.1 hsm.2.2]
 unfold L0
 rw[if_pos hok,if_pos hv,e]
theorem Za {p q:List Nat} {j:Nat} (hj:j < s.length) (hp:j∈p) (hq : ∀ k,k∈q↔k∈p∧k≠j):kT (dG s (db s told given) p) (aX s j,db s told given j,())=some ((dG s (db s told given) q,()),()):=by
 have hn:=bn hs
 have hdl:=(BR s (db s told given) p).length_le
 rw[gW] at hdl
 rw[Wa _ (by omega),XU (gi hs) hj hp hq]
omit hg in
theorem Ik {t:List Nat} {k:Nat} (hk:k < s.length) (ht : ∀ j∈t,j < s.length) (hl:t.length≤1000000):nY (t.map (aX s)) (aX s k)=some ((decide (k∈t),()),()):=by
 rw[xZ _ (by rw[List.length_map]; omega)]
 have:decide (aX s k∈t.map (aX s))=decide (k∈t):=by
  rw[Bool.eq_iff_iff,decide_eq_true_eq,decide_eq_true_eq]
  exact V4 (gi hs) hk ht
 rw[this]
def ic (lft rest:List Nat) (i:Nat) (k:Nat):Bool:=decide (k∈lft.drop i) || decide (k∈rest)
section
variable {lft rest:List Nat} (hlf : ∀ k∈lft,k < s.length) (hre : ∀ k∈rest,k < s.length) (hll:lft.length≤120) (hrl:rest.length≤120)
include hlf hre hll hrl
omit hg in
theorem sf {i:Nat} (hi:i < lft.length) {f:List aa} {a b:Int} {c:ByteArray} {done:List ah} {ln:List Nat} (hln : ∀ k∈ln,k < s.length) (hlnl:ln.length≤120) : ∀(ys pre:List Nat) (w:Bool),ln=pre++ys →
  fk s (i:Int) w (pre.length:Int) done (lft.map (aX s)) (rest.map (aX s)) f a b c (ln.map (aX s)) =
  if(w || ys.any (ic lft rest i))=true then(ix (lft.map (aX s)) (i:Int) (ap.dflt) fun y2=>(app (rest.map (aX s)) ([y2]:(List ao)) 16 fun y3=>(eE s (IntKind.i64.wrap ((i:Int)+1)) done (lft.map (aX s)) y3)))
  else((uB f done).bind fun z3=>(ix (lft.map (aX s)) (i:Int) (ap.dflt) fun y4=>((kT done (y4,z3.1.1,())).bind fun z4=>(eE s (IntKind.i64.wrap ((i:Int)+1)) z4.1.1 (lft.map (aX s)) (rest.map (aX s))))))
 | [],pre,w,h=>by
  have e:=bj h
  rw[xO,aA (by rw[List.length_map]; exact e),List.any_nil,Bool.or_false]
 | y :: ys,pre,w,h=>by
  have hlen:ln.length=pre.length+(ys.length+1):=by rw[h]; simp
  have hlt:(pre.length:Int) < ((ln.map (aX s)).length:Int):=by rw[List.length_map]; exact bu h
  have hgt:List.getD (ln.map (aX s)) (Int.toNat (pre.length:Int)) ap.dflt=aX s y:=by
   rw[h,List.getD_eq_getElem?_getD]
   simp
  have hy:=hln y (by rw[h]; simp)
  have hw:IntKind.i64.wrap ((pre.length:Int)+1)=((pre++[y]).length:Int):=aJ h (by omega)
  rw[xO,aB hlt,hw]
  cases w with
  | true =>
   rw[if_pos rfl,sf hi hln hlnl ys _ true (az h)]
   simp only[Bool.true_or]
  | false =>
   have hdr:List.drop ((i:Int).toNat) (lft.map (aX s))=(lft.drop i).map (aX s):=by rw[Int.toNat_natCast,List.map_drop]
   rw[if_neg (by decide),Hj (nn _) (by rw[List.length_map]; omega),hdr,bC (nn _) hlt,hgt,Ik hs hy (fun j hj=>hlf j (List.mem_of_mem_drop hj)) (by rw[List.length_drop]; omega),Option.bind_some]
   dsimp only
   have hany:(y :: ys).any (ic lft rest i)=(ic lft rest i y || ys.any (ic lft rest i)):=List.any_cons
   by_cases h1:y∈lft.drop i
   ·have hwt:ic lft rest i y=true:=by
     unfold ic
     simp[h1]
    rw[decide_eq_true h1,if_pos rfl,sf hi hln hlnl ys _ true (az h),hany,hwt]
    simp only[Bool.true_or,Bool.false_or]
   ·have hwt:ic lft rest i y=decide (y∈rest):=by
     unfold ic
     simp[h1]
    rw[decide_eq_false h1,if_neg (by decide),bC (nn _) hlt,Ik hs hy hre (by omega),Option.bind_some]
    dsimp only
    rw[sf hi hln hlnl ys _ _ (az h),hany,hwt]
    simp only[Bool.false_or]
omit hg in
theorem Zb {i:Nat} (hi:i < lft.length) {f:List aa} {a b:Int} {c:ByteArray} {done:List ah} {ln:List Nat} (hln : ∀ k∈ln,k < s.length) (hlnl:ln.length≤120) :
  sP s (i:Int) false 0 done (lft.map (aX s)) (rest.map (aX s)) f a b c (ln.map (aX s)) =
  if(ln.any (ic lft rest i))=true then(ix (lft.map (aX s)) (i:Int) (ap.dflt) fun y2=>(app (rest.map (aX s)) ([y2]:(List ao)) 16 fun y3=>(eE s (IntKind.i64.wrap ((i:Int)+1)) done (lft.map (aX s)) y3)))
  else if ln=[] then((uB f done).bind fun z3=>(ix (lft.map (aX s)) (i:Int) (ap.dflt) fun y4=>((kT done (y4,z3.1.1,())).bind fun z4=>(ik s (IntKind.i64.wrap ((i:Int)+1)) z4.1.1 (lft.map (aX s)) (rest.map (aX s))))))
  else((uB f done).bind fun z3=>(ix (lft.map (aX s)) (i:Int) (ap.dflt) fun y4=>((kT done (y4,z3.1.1,())).bind fun z4=>(eE s (IntKind.i64.wrap ((i:Int)+1)) z4.1.1 (lft.map (aX s)) (rest.map (aX s)))))):=by
 have hlt':(i:Int) < ((lft.map (aX s)).length:Int):=by rw[List.length_map]; omega
 cases ln with
 | nil =>
  rw[Am,aA (by simp),if_neg (by decide),if_neg (by simp),if_pos rfl]
  congr 1
 | cons y ys =>
  have hlt:(0:Int) < (((y :: ys).map (aX s)).length:Int):=by simp only[List.map_cons,List.length_cons]; omega
  have hgt:List.getD ((y :: ys).map (aX s)) (Int.toNat (0:Int)) ap.dflt=aX s y:=rfl
  have hy:=hln y (by simp)
  have hw:IntKind.i64.wrap ((0:Int)+1)=(([y]:List Nat).length:Int):=by
   show IntKind.i64.wrap ((0:Int)+1)=(1:Int)
   decide
  have hdr:List.drop ((i:Int).toNat) (lft.map (aX s))=(lft.drop i).map (aX s):=by rw[Int.toNat_natCast,List.map_drop]
  rw[Am,aB hlt,hw,if_neg (by decide),Hj (nn _) (by rw[List.length_map]; omega),hdr,bC (Int.le_refl 0) hlt,hgt,Ik hs hy (fun j hj=>hlf j (List.mem_of_mem_drop hj)) (by rw[List.length_drop]; omega),Option.bind_some]
  dsimp only
  rw[if_neg (show ¬(y :: ys)=[] by simp)]
  have hany:(y :: ys).any (ic lft rest i)=(ic lft rest i y || ys.any (ic lft rest i)):=List.any_cons
  by_cases h1:y∈lft.drop i
  ·have hwt:ic lft rest i y=true:=by
    unfold ic
    simp[h1]
   rw[decide_eq_true h1,if_pos rfl,sf hs hlf hre hll hrl hi hln hlnl ys [y] true rfl,hany,hwt]
  ·have hwt:ic lft rest i y=decide (y∈rest):=by
    unfold ic
    simp[h1]
   rw[decide_eq_false h1,if_neg (by decide),bC (Int.le_refl 0) hlt,Ik hs hy hre (by omega),Option.bind_some]
   dsimp only
   rw[sf hs hlf hre hll hrl hi hln hlnl ys [y] _ rfl,hany,hwt]
end
def L4 (s:List ae) (lft:List Nat) (j:Nat):Prop:=cR (ga s j)=none∨dU (bR s) j j ∨ ∀ k∈bR s j,k ∉ lft
theorem BS {lft:List Nat} (hd:lft.Nodup) (hlf : ∀ k∈lft,k < s.length∧told k=false) : ∀(ys pre rest:List Nat),lft=pre++ys→rest.Sublist pre→(∀ k∈rest,¬L4 s lft k) →
  ∃ rest',ik s (pre.length:Int) (dG s (db s told given) (rest++ys)) (lft.map (aX s)) (rest.map (aX s))=jv s (dG s (db s told given) rest') (rest'.map (aX s))∧eE s (pre.length:Int) (dG s (db s told given) (rest++ys)) (lft.map (aX s)) (rest.map (aX s))=jv s (dG s (db s told given) rest') (rest'.map (aX s))∧rest'.Sublist lft ∧ ∀ k∈rest',¬L4 s lft k
 | [],pre,rest,h,hr,hf=>by
  have e:=bj h
  have hpre:lft=pre:=by rw[h]; simp
  refine⟨rest,?_,?_,hpre ▸ hr,hf⟩
  ·rw[Al,aA (by rw[List.length_map]; exact e),List.append_nil]
  ·rw[xP,aA (by rw[List.length_map]; exact e),List.append_nil]
 | y :: ys,pre,rest,h,hr,hf=>by
  have hn:=bn hs
  have hlft:=fun k hk=>(hlf k hk).1
  have hll:=wH s.length lft hd hlft
  have hlen:lft.length=pre.length+(ys.length+1):=by rw[h]; simp
  have hrl:=hr.length_le
  have hym:y∈lft:=by rw[h]; simp
  obtain⟨hy,hyt⟩:=hlf y hym
  have hlt:(pre.length:Int) < ((lft.map (aX s)).length:Int):=by rw[List.length_map]; exact bu h
  have hgt:List.getD (lft.map (aX s)) (Int.toNat (pre.length:Int)) ap.dflt=aX s y:=by
   rw[h,List.getD_eq_getElem?_getD]
   simp
  have hix : ∀ {β:Type} (F:ao→Option β),ix (lft.map (aX s)) (pre.length:Int) ap.dflt F=F (aX s y):=by
   intro β F
   unfold ix
   rw[if_pos (nn _),if_pos hlt,hgt]
  have hw:IntKind.i64.wrap ((pre.length:Int)+1)=((pre++[y]).length:Int):=aJ h (by omega)
  have hd':=hd
  rw[h,List.nodup_append] at hd'
  obtain⟨_,hd2,hd3⟩:=hd'
  have hd2:=List.nodup_cons.1 hd2
  have hyr:y ∉ rest:=fun hm=>hd3 y (hr.subset hm) y (by simp) rfl
  have hq : ∀ k,k∈rest++ys↔k∈rest++y :: ys∧k≠y:=by
   intro k
   simp only[List.mem_append,List.mem_cons]
   constructor
   ·rintro(e | e)
    ·exact⟨.inl e,fun x=>hyr (x ▸ e)⟩
    ·exact⟨.inr (.inr e),fun x=>hd2.1 (x ▸ e)⟩
   ·rintro⟨e | e | e,hne⟩
    ·exact .inl e
    ·exact absurd e hne
    ·exact .inr e
  have hsub:rest.Sublist (pre++[y]):=hr.trans (List.sublist_append_left _ _)
  have hput:=Za (told:=told) hs hg hy (p:=rest++y :: ys) (by simp) hq
  have ihF:=BS hd hlf ys (pre++[y]) rest (az h) hsub hf
  have hsz:=ej hs y
  have hrv:kE (ga s y)=some (((bB (lb (ga s y))).1,(bB (lb (ga s y))).2,()),()):=by
   have:=oM (w:=lb (ga s y)) (by rw[jk]; omega)
   rw[d9] at this
   exact this
  have hsrc:gH (aX s y) s=ga s y:=RB (gi hs) hy
  have hve:=r9 (told:=told) (given:=given) (ej hs) y
  rw[if_neg (by simp[hyt])] at hve
  rw[Al,xP,aB hlt,aB hlt,bC (nn _) hlt,hix,hgt,OO (by omega),hsrc]
  simp only[Option.bind_some,Yl hsz,hrv,hw]
  cases hfo:cR (ga s y) with
  | none =>
   rw[hfo] at hve
   simp only[Option.isSome_none,Bool.false_eq_true,if_false,bC (nn _) hlt,hix,←hve,hput,Option.bind_some]
   exact ihF
  | some f =>
   rw[hfo] at hve
   simp only[Option.isSome_some,if_true,dA,Option.bind_some,bC (nn _) hlt,hix,TQ hs hy]
   by_cases hrc:dU (bR s) y y
   ·simp only[if_pos hrc] at hve
    have hrb:=mI.2 hrc
    simp only[hrb,Bool.not_true,Bool.false_eq_true,if_false,bC (nn _) hlt,hix]
    have e5:(vE 5)=db s told given y:=hve.symm
    simp only[e5,hput,Option.bind_some]
    exact ihF
   ·simp only[if_neg hrc] at hve
    have hrb:yM s y=false:=by
     rw[Bool.eq_false_iff,ne_eq,mI]
     exact hrc
    have hlnl:(bR s y).length≤s.length:=AC s (K7 s y)
    have hre : ∀ k∈rest,k < s.length:=fun k hk=>hlft k (by rw[h]; exact List.mem_append_left _ (hr.subset hk))
    have hfin:=Zb hs hlft hre (by omega) (by omega) (i:=pre.length) (by omega) (f:=f) (a:=(vE 5).1) (b:=(vE 5).2.1) (c:=(vE 5).2.2.1) (done:=dG s (db s told given) (rest++y :: ys)) (ln:=bR s y) (fun k hk=>mJ hk) (by omega)
    have hfin2:=sf hs hlft hre (by omega) (by omega) (i:=pre.length) (by omega) (f:=f) (a:=(vE 5).1) (b:=(vE 5).2.1) (c:=(vE 5).2.2.1) (done:=dG s (db s told given) (rest++y :: ys)) (ln:=bR s y) (fun k hk=>mJ hk) (by omega) (bR s y) [] false rfl
    have hfin2:fk s (pre.length:Int) false 0 (dG s (db s told given) (rest++y :: ys)) (lft.map (aX s)) (rest.map (aX s)) f (vE 5).1 (vE 5).2.1 (vE 5).2.2.1 ((bR s y).map (aX s))=_:=hfin2
    rw[Bool.false_or] at hfin2
    have hdrop:lft.drop pre.length=y :: ys:=by rw[h]; simp
    simp only[hrb,Bool.not_false,if_true,bC (nn _) hlt,hix,OX hs hy,Option.bind_some,Option.getD_some,hfin,hfin2]
    by_cases hwt:(bR s y).any (ic lft rest pre.length)=true
    ·have hfr : ¬L4 s lft y:=by
      rintro(e | e | e)
      ·rw[hfo] at e
       cases e
      ·exact hrc e
      ·obtain⟨k,hk,hkw⟩:=List.any_eq_true.1 hwt
       refine e k hk ?_
       unfold ic at hkw
       rw[Bool.or_eq_true,decide_eq_true_eq,decide_eq_true_eq] at hkw
       rcases hkw with hkw | hkw
       ·exact List.mem_of_mem_drop hkw
       ·rw[h]
        exact List.mem_append_left _ (hr.subset hkw)
     have ihT:=BS hd hlf ys (pre++[y]) (rest++[y]) (az h) (hr.append (List.Sublist.refl _)) (fun k hk=>by
      rcases List.mem_append.1 hk with hk | hk
      ·exact hf k hk
      ·rw[List.mem_singleton.1 hk]
       exact hfr)
     have e1:rest.map (aX s)++[aX s y]=(rest++[y]).map (aX s):=by simp
     have e2:(rest++[y])++ys=rest++y :: ys:=by simp
     rw[e2] at ihT
     obtain⟨rest',a1,a2,a3,a4⟩:=ihT
     simp only[if_pos hwt,hix]
     rw[bd (by simp only[List.length_map,List.length_singleton]; omega),e1,hw]
     exact⟨rest',a2,a2,a3,a4⟩
    ·have hno : ∀ k∈bR s y,k ∉ rest++y :: ys:=by
      intro k hk hkm
      apply hwt
      rw[List.any_eq_true]
      refine⟨k,hk,?_⟩
      unfold ic
      rw[hdrop,Bool.or_eq_true,decide_eq_true_eq,decide_eq_true_eq]
      exact(List.mem_append.1 hkm).symm
     have hev:=Wb hs hg hfo hno hyt hrc
     obtain⟨rest',a1,a2,a3,a4⟩:=ihF
     simp only[if_neg hwt,hev,Option.bind_some,hix,hput,hw]
     refine⟨rest',?_,?_,a3,a4⟩
     ·first
      | exact a1
      | exact a2
      | (split <;> first | exact a1 | exact a2)
     ·first
      | exact a1
      | exact a2
      | (split <;> first | exact a1 | exact a2)
theorem RG : ∀(m:Nat) (lft:List Nat),lft.length≤m→lft.Nodup→(∀ k∈lft,k < s.length∧told k=false)→jv s (dG s (db s told given) lft) (lft.map (aX s))=some ((aY s (db s told given),()),())
 | m,[],_,_,_=>by
  rw[Ca,aA (by simp),XR]
 | 0,y :: ys,h,_,_=>by simp at h
 | m+1,y :: ys,h,hd,hlf=>by
  obtain⟨rest',a1,_,a3,a4⟩:=BS hs hg hd hlf (y :: ys) [] [] rfl (List.Sublist.refl _) (fun k hk=>by cases hk)
  have hfree : ∃ j∈y :: ys,L4 s (y :: ys) j:=by
   by_cases hx : ∃ j∈y :: ys,dU (bR s) j j
   ·obtain⟨j,h1,h2⟩:=hx
    exact⟨j,h1,.inr (.inl h2)⟩
   ·obtain⟨i,h1,h2⟩:=Xh (L:=bR s) (N:=List.range s.length) L3 (l:=y :: ys) (by simp) (fun i hi hr=>hx ⟨i,hi,hr⟩)
    exact⟨i,h1,.inr (.inr h2)⟩
  obtain⟨j,h1,h2⟩:=hfree
  have hlt:rest'.length < (y :: ys).length:=by
   rcases Nat.lt_or_ge rest'.length (y :: ys).length with e | e
   ·exact e
   ·have:=a3.eq_of_length (Nat.le_antisymm a3.length_le e)
    exact absurd h2 (a4 j (this ▸ h1))
  have ih:=RG m rest' (by omega) (hd.sublist a3) (fun k hk=>hlf k (a3.subset hk))
  rw[Ca,aB (by simp only[List.map_cons,List.length_cons]; omega)]
  exact a1.trans ih
end
section
variable {s:List ae} (hs:bz s=true) {known:List ah} (hk:known.length≤1000000) (hkv : ∀ c∈known,ax c.2.1=true) {ask:List ao} (ha:ask.length≤1000000)
include hs hk ha
theorem Jv : ∀(ys pre:List ae) (done:List ah) (left:List ao),s=pre++ys→done.length≤pre.length→left.length≤pre.length →
  qR s known ask (pre.length:Int) done left=jv s (done++(ys.filter fun c => !decide (c.1∈ask)).map fun c=>(c.1,fJ known c.1,())) (left++(ys.filter fun c=>decide (c.1∈ask)).map (·.1))
 | [],pre,done,left,h,h1,h2=>by
  rw[B6,aA (bj h)]
  simp
 | y :: ys,pre,done,left,h,h1,h2=>by
  have hn:=bn hs
  have hlen:s.length=pre.length+(ys.length+1):=by rw[h]; simp
  rw[B6,aB (bu h)]
  simp only[br h,xZ _ (show ask.length≤1000000000 by omega),Option.bind_some,NO (xs:=known) (by omega)]
  rw[aJ h (by omega)]
  by_cases e:y.1∈ask
  ·rw[decide_eq_true e,if_pos rfl,bd (by simp only[List.length_singleton]; omega),Jv ys _ _ _ (az h) (by simp only[List.length_append,List.length_singleton]; omega) (by simp only[List.length_append,List.length_singleton]; omega)]
   rw[List.filter_cons_of_neg (by simp[e]),List.filter_cons_of_pos (by simp[e])]
   simp
  ·rw[decide_eq_false e,if_neg (by decide),bd (by simp only[List.length_singleton]; omega),Jv ys _ _ _ (az h) (by simp only[List.length_append,List.length_singleton]; omega) (by simp only[List.length_append,List.length_singleton]; omega)]
   rw[List.filter_cons_of_pos (by simp[e]),List.filter_cons_of_neg (by simp[e])]
   simp
include hkv
theorem TS:D9 s known ask=some ((aY s (db s (fun k => !decide (aX s k∈ask)) fun k=>fJ known (aX s k)),()),()):=by
 have h0:=Jv hs hk ha s [] [] [] rfl (Nat.le_refl _) (Nat.le_refl _)
 have key : ∀ t:List ae,(List.range s.length).map (fun i=>s.getD i aj.dflt)=t→(t.filter fun c=>decide (c.1∈ask)).map (·.1)=((List.range s.length).filter fun k=>decide (aX s k∈ask)).map (aX s)∧((t.filter fun c => !decide (c.1∈ask)).map fun c=>((c.1,fJ known c.1,()):ah))=((List.range s.length).filter fun k => !decide (aX s k∈ask)).map fun k=>(aX s k,fJ known (aX s k),()):=by
  rintro _ rfl
  rw[List.filter_map,List.filter_map,List.map_map,List.map_map]
  exact⟨rfl,rfl⟩
 obtain⟨k1,k2⟩:=key s (DH s _)
 have hg : ∀ k,k < s.length→ax (fJ known (aX s k))=true:=fun k _=>F8 hkv
 have hd:dG s (db s (fun k => !decide (aX s k∈ask)) fun k=>fJ known (aX s k)) ((List.range s.length).filter fun k=>decide (aX s k∈ask))=((List.range s.length).filter fun k => !decide (aX s k∈ask)).map fun k=>(aX s k,fJ known (aX s k),()):=by
  unfold dG
  have e1:((List.range s.length).filter fun k => !decide (k∈(List.range s.length).filter fun k=>decide (aX s k∈ask)))=(List.range s.length).filter fun k => !decide (aX s k∈ask):=by
   refine List.filter_congr fun k hk => ?_
   congr 1
   rw[Bool.eq_iff_iff,decide_eq_true_eq,decide_eq_true_eq,List.mem_filter,decide_eq_true_eq]
   exact⟨fun h=>h.2,fun h=>⟨hk,h⟩⟩
  rw[e1]
  refine List.map_congr_left fun k hk => ?_
  rw[List.mem_filter] at hk
  rw[r9 (ej hs) k,if_pos hk.2]
 rw[SP]
 refine h0.trans ?_
 rw[List.nil_append,List.nil_append,k1,k2,←hd]
 refine RG hs hg _ _ (Nat.le_refl _) (List.Pairwise.filter _ List.nodup_range) (fun k hk => ?_)
 rw[List.mem_filter,List.mem_range] at hk
 exact⟨hk.1,by rw[hk.2]; rfl⟩
end
open Classical in
open Classical in
section
variable {s:List ae} (hs:bz s=true) {refs:List ao} (hr:refs.length≤120)
include hs
include hr
end
section
variable {s:List ae} (hs:bz s=true)
include hs
variable {refs:List ao}
end
theorem Lb {s:List ae} {t t':Nat→Bool} {g g':Nat→ab} (ht : ∀ k,k < s.length→t k=t' k) (hg : ∀ k,k < s.length→t k=true→g k=g' k) : ∀(n k:Nat),k < s.length→lB s t g n k=lB s t' g' n k
 | 0,k,hk=>rfl
 | n+1,k,hk=>by
  unfold lB
  rw[←ht k hk]
  by_cases h:t k=true
  ·rw[if_pos h,if_pos h,hg k hk h]
  ·rw[if_neg h,if_neg h,DJ fun j hj=>Lb ht hg n j hj]
theorem Wc {s:List ae} {t t':Nat→Bool} {g g':Nat→ab} (ht : ∀ k,k < s.length→t k=t' k) (hg : ∀ k,k < s.length→t k=true→g k=g' k) {k:Nat} (hk:k < s.length):db s t g k=db s t' g' k:=Lb ht hg _ k hk
noncomputable def DM (s:List ae) (k:Nat):ab:=db s (fun _=>false) (fun _=>v0) k
theorem Lc {α:Type} (n k:Nat) (d:α):(List.replicate n d).getD k d=d:=by
 rw[List.getD_eq_getElem?_getD,List.getElem?_replicate]
 split <;> rfl
section
variable {s:List ae} (hs:bz s=true)
include hs
theorem oz : ∀ c∈s,c.2.1.size≤9223372036854775807:=fun c hc=>Nat.le_trans (rk hs c hc) (by decide)
theorem Il:vJ s=some ((aY s (DM s),()),()):=by
 have hn:=bn hs
 rw[HA,OZ (by omega) (oz hs),Option.bind_some,zN (by omega),zN (by omega)]
 have e:=Qm (told:=fun _=>false) (given:=fun _=>v0) hs (td:=List.replicate s.length false) (gv:=List.replicate s.length am.dflt) (by simp) (by simp) (fun v hv=>by
  rw[List.eq_of_mem_replicate hv]
  exact NP) (fun k _=>(Lc _ _ _).symm) (fun k _=>(Lc _ _ (v0:ab)).symm)
 rw[e]
 rfl
theorem O4 : ∀(ys pre:List ae) (acc:List ao),s=pre++ys→acc.length≤pre.length→xn s (pre.length:Int) acc=((D9 s ([]:(List ah)) (acc++ys.map (·.1))).bind fun z1=>(some ((z1.1.1,()),(()))))
 | [],pre,acc,h,ha=>by
  rw[Dd,aA (bj h)]
  simp
 | y :: ys,pre,acc,h,ha=>by
  have hn:=bn hs
  have hlen:s.length=pre.length+(ys.length+1):=by rw[h]; simp
  rw[Dd,aB (bu h),br h,bd (by simp only[List.length_singleton]; omega),aJ h (by omega),O4 ys _ _ (az h) (by simp only[List.length_append,List.length_singleton]; omega)]
  simp
theorem Wd:M1 s=some ((aY s (DM s),()),()):=by
 have hn:=bn hs
 have h0:=O4 hs s [] [] rfl (Nat.le_refl _)
 have e:aY s (db s (fun k => !decide (aX s k∈s.map (·.1))) fun k=>fJ [] (aX s k))=aY s (DM s):=by
  have hm : ∀ k,k < s.length→aX s k∈s.map (·.1):=fun k hk=>List.mem_map.2 ⟨s.getD k aj.dflt,sc hk,rfl⟩
  refine DJ fun k hk=>Wc (fun j hj=>by rw[decide_eq_true (hm j hj)]; rfl) (fun j hj h => ?_) hk
  rw[decide_eq_true (hm j hj)] at h
  cases h
 rw[U9]
 refine h0.trans ?_
 rw[List.nil_append,TS hs (known:=[]) (by simp) (fun c hc=>by cases hc) (by rw[List.length_map]; omega),e]
 rfl
end
section
variable {s:List ae} (h1 : ∀ c∈s,c.2.1.size≤9223372036854775807) (h2:s.length≤1000000000)
include h1 h2
variable {old:List ah} (h3 : ∀ c∈old,c.2.1.2.2.1.size≤9223372036854775807) (h4:old.length≤1000000) {ch:List ao} (h5:ch.length≤1000000000)
include h3 h4 h5
end
section
variable {α:Type} [DecidableEq α]
def aC:List α→List α→List α
 | t,[]=>t
 | t,k :: ks=>if k∈t then aC t ks else aC (t++[k]) ks
theorem We (t:List α) (k:α) (ks:List α):aC t (k :: ks)=if k∈t then aC t ks else aC (t++[k]) ks:=rfl
theorem pm : ∀(ks t:List α),∃ ex,aC t ks=t++ex
 | [],t=>⟨[],by simp[aC]⟩
 | k :: ks,t=>by
  unfold aC
  split
  ·exact pm ks t
  ·obtain⟨ex,h⟩:=pm ks (t++[k])
   exact⟨k :: ex,by rw[h]; simp⟩
theorem si : ∀(ks t:List α) (j:α),j∈aC t ks↔j∈t∨j∈ks
 | [],t,j=>by simp[aC]
 | k :: ks,t,j=>by
  unfold aC
  by_cases hk:k∈t
  ·rw[if_pos hk,si,List.mem_cons]
   constructor
   ·rintro(e | e)
    ·exact .inl e
    ·exact .inr (.inr e)
   ·rintro(e | e | e)
    ·exact .inl e
    ·rw[e]
     exact .inl hk
    ·exact .inr e
  ·rw[if_neg hk,si,List.mem_append,List.mem_singleton,List.mem_cons,or_assoc]
theorem uZ : ∀(ks t:List α),t.Nodup→(aC t ks).Nodup
 | [],t,h=>h
 | k :: ks,t,h=>by
  unfold aC
  by_cases hk:k∈t
  ·rw[if_pos hk]
   exact uZ ks t h
  ·rw[if_neg hk]
   refine uZ ks _ ?_
   rw[List.nodup_append]
   refine⟨h,by simp,fun a ha b hb => ?_⟩
   rw[List.mem_singleton.1 hb]
   exact fun e=>hk (e ▸ ha)
theorem jP : ∀(a b t:List α),aC t (a++b)=aC (aC t a) b
 | [],b,t=>rfl
 | k :: a,b,t=>by
  rw[List.cons_append,We,We]
  split
  ·exact jP a b t
  ·exact jP a b _
theorem RH : ∀(ks t:List α),(∀ k∈ks,k∈t)→aC t ks=t
 | [],t,_=>rfl
 | k :: ks,t,h=>by
  unfold aC
  rw[if_pos (h k (by simp))]
  exact RH ks t fun j hj=>h j (List.mem_cons_of_mem _ hj)
theorem tJ : ∀(L ks:List α),(aC L ks).length≤L.length+ks.length
 | L,[]=>Nat.le_refl _
 | L,k :: ks=>by
  unfold aC
  rw[List.length_cons]
  split
  ·have:=tJ L ks
   omega
  ·have:=tJ (L++[k]) ks
   rw[List.length_append,List.length_singleton] at this
   omega
theorem sj (t:List α) (k:α):aC t [k]=if k∈t then t else t++[k]:=rfl
theorem Wf (t:List α) (k:α) (ks:List α):aC t (k :: ks)=aC (aC t [k]) ks:=jP [k] ks t
theorem BT : ∀(ks L t:List α),aC L (aC t ks)=aC (aC L t) ks
 | [],L,t=>rfl
 | k :: ks,L,t=>by
  by_cases hk:k∈t
  ·have h2:k∈aC L t:=(si _ _ _).2 (.inr hk)
   have e1:aC t (k :: ks)=aC t ks:=by
    conv=>lhs; unfold aC
    rw[if_pos hk]
   have e2:aC (aC L t) (k :: ks)=aC (aC L t) ks:=by
    conv=>lhs; unfold aC
    rw[if_pos h2]
   rw[e1,e2]
   exact BT ks L t
  ·have e1:aC t (k :: ks)=aC (t++[k]) ks:=by
    conv=>lhs; unfold aC
    rw[if_neg hk]
   rw[e1,BT ks L (t++[k]),jP,←Wf]
theorem Z8 (L t:List α):aC L (aC [] t)=aC L t:=by
 rw[BT]
 rfl
theorem L5 (t:List α) (j:α):j∈aC [] t↔j∈t:=by
 rw[si]
 simp
theorem RJ (t:List α):(aC [] t).Nodup:=uZ t [] List.nodup_nil
theorem aas (a b:List α):aC [] (a++b)=aC (aC [] a) b:=jP a b []
theorem aat (t ks:List α):aC [] (aC t ks)=aC (aC [] t) ks:=BT ks [] t
theorem ya : ∀(l m:List α),l.Nodup→(∀ x∈l,x∈m)→l.length≤m.length
 | [],m,_,_=>Nat.zero_le _
 | a :: l,m,hd,h=>by
  have hd:=List.nodup_cons.1 hd
  have ha:=h a (by simp)
  have h1:=ya l (m.erase a) hd.2 (fun x hx=>(List.mem_erase_of_ne (a:=x) (b:=a) (fun e:x=a=>hd.1 (e ▸ hx))).2 (h x (List.mem_cons_of_mem _ hx)))
  rw[List.length_erase_of_mem ha] at h1
  have:1≤m.length:=List.length_pos_of_mem ha
  rw[List.length_cons]
  omega
end
theorem Jw (a b:ag):bp au a b=decide (a=b):=by
 rw[Bool.eq_iff_iff,decide_eq_true_eq]
 exact nh rfl
noncomputable def sk (s:List ae) (a:ag):List ag:=(s.filter fun c=>dJ a c.1).flatMap fun c=>fo c.2.1
noncomputable def yb (a:ag) (F:List ag) (c:ae):List ag:=if dJ a c.1=true then aC F (fo c.2.1) else F
theorem BU (a:ag) : ∀(s:List ae) (F:List ag),s.foldl (yb a) F=aC F (sk s a)
 | [],F=>rfl
 | c :: s,F=>by
  rw[List.foldl_cons,BU a s]
  unfold yb sk
  by_cases h:dJ a c.1=true
  ·rw[if_pos h,List.filter_cons_of_pos (p:=fun c:ae=>dJ a c.1) h,List.flatMap_cons,jP]
  ·rw[if_neg h,List.filter_cons_of_neg (p:=fun c:ae=>dJ a c.1) h]
noncomputable def wK (s:List ae):Nat→Nat→List ag→List ag
 | 0,_,F=>F
 | n+1,k,F=>match F[k]? with
  | none=>F
  | some a=>wK s n (k+1) (aC F (sk s a))
noncomputable def lC (s:List ae) (ar:List ag):List ag:=ar++s.flatMap fun c=>fo c.2.1
noncomputable def nr (s:List ae) (ar:List ag):List ag:=wK s (lC s ar).length 0 (aC [] ar)
theorem O5 {s:List ae} {ar:List ag} {a x:ag} (h:x∈sk s a):x∈lC s ar:=by
 unfold sk at h
 unfold lC
 obtain⟨c,h1,h2⟩:=List.mem_flatMap.1 h
 exact List.mem_append_right _ (List.mem_flatMap.2 ⟨c,(List.mem_filter.1 h1).1,h2⟩)
theorem XV {s:List ae} (hs : ∀ c∈s,c.2.1.size≤9223372036854775807):(s.flatMap fun c=>fo c.2.1).length≤s.length*60:=by
 induction s with
 | nil=>simp
 | cons c s ih =>
  have h1:=pR (hs c (by simp))
  have h2:=ih fun d hd=>hs d (List.mem_cons_of_mem _ hd)
  rw[List.flatMap_cons,List.length_append,List.length_cons]
  omega
theorem ve {s:List ae} (hs:bz s=true) {ar:List ag} (ha:ar.length≤60):(lC s ar).length≤7260:=by
 have h1:=bn hs
 have h2:=XV (oz hs)
 unfold lC
 rw[List.length_append]
 omega
structure sn (s:List ae) (ar F:List ag):Prop where
 nd:F.Nodup
 sub : ∀ x∈F,x∈lC s ar
theorem sn.len {s:List ae} {ar F:List ag} (h:sn s ar F):F.length≤(lC s ar).length:=ya _ _ h.nd h.sub
theorem sn.add {s:List ae} {ar F ks:List ag} (h:sn s ar F) (hk : ∀ x∈ks,x∈lC s ar):sn s ar (aC F ks):=⟨uZ _ _ h.nd,fun x hx=>by
 rcases(si _ _ _).1 hx with e | e
 ·exact h.sub x e
 ·exact hk x e⟩
theorem sn.first (s:List ae) (ar:List ag):sn s ar (aC [] ar):=⟨RJ _,fun x hx=>List.mem_append_left _ ((L5 _ _).1 hx)⟩
theorem BV {l:List ag} {r:ag} (hl:l.length≤1000000000):dY l r=some ((decide (r∈l),()),()):=by
 have h:fi l (l.length:Int) 0 r.1 r.2.1=some ((mH (fun y=>bp au r y) l 0,()),()):=wG (s:=l) (d:=au.dflt) (p:=fun y=>bp au r y) (P:=fun j=>fi l (l.length:Int) j r.1 r.2.1) (F:=fun j=>some ((j,()),())) (by omega) (fun j=>wP) l [] rfl
 rw[wO,Bm,h]
 simp only[Option.bind_some,BO]
 have e:(l.any fun y=>bp au r y)=decide (r∈l):=by
  rw[Bool.eq_iff_iff,List.any_eq_true,decide_eq_true_eq]
  constructor
  ·rintro⟨y,hy,h⟩
   rw[Jw,decide_eq_true_eq] at h
   rw[h]
   exact hy
  ·intro h
   exact⟨r,h,by rw[Jw,decide_eq_true rfl]⟩
 rw[e]
section
variable {ks:List ag} (hk:ks.length≤100000)
include hk
theorem Jx : ∀(ys pre F:List ag),ks=pre++ys→F.length+ys.length≤1000000→fP ks (ks.length:Int) (pre.length:Int) F=some ((),(aC F ys,()))
 | [],pre,F,h,hb=>by
  rw[ol,aA (bj h)]
  rfl
 | y :: ys,pre,F,h,hb=>by
  rw[List.length_cons] at hb
  rw[ol,aB (bu h),br h,BV (by omega),Option.bind_some,aJ h (by omega)]
  dsimp only
  unfold aC
  by_cases e:y∈F
  ·rw[decide_eq_true e,if_neg (by decide),if_pos e]
   exact Jx ys _ F (az h) (by omega)
  ·rw[decide_eq_false e,if_pos (by decide),if_neg e,bd (by simp only[List.length_singleton]; omega)]
   exact Jx ys _ _ (az h) (by simp only[List.length_append,List.length_singleton]; omega)
theorem Wg : ∀(ys pre F:List ag),ks=pre++ys→F.length+ys.length≤1000000→js ks (ks.length:Int) (pre.length:Int) F=some ((),(aC F ys,()))
 | [],pre,F,h,hb=>by
  rw[pJ,aA (bj h)]
  rfl
 | y :: ys,pre,F,h,hb=>by
  rw[List.length_cons] at hb
  rw[pJ,aB (bu h),br h,BV (by omega),Option.bind_some,aJ h (by omega)]
  dsimp only
  unfold aC
  by_cases e:y∈F
  ·rw[decide_eq_true e,if_neg (by decide),if_pos e]
   exact Wg ys _ F (az h) (by omega)
  ·rw[decide_eq_false e,if_pos (by decide),if_neg e,bd (by simp only[List.length_singleton]; omega)]
   exact Jx hk ys _ _ (az h) (by simp only[List.length_append,List.length_singleton]; omega)
theorem O6 {F:List ag} (hb:F.length≤100000):jp ks F=some ((),(aC F ks,())):=by
 rw[C9]
 exact Wg hk ks [] F rfl (by omega)
theorem Gm {sh:List ae} {st:List ao} : ∀(ys pre L:List ag),ks=pre++ys→L.length+ys.length≤100000000→gt (ks.length:Int) (pre.length:Int) sh st ks L=some ((),((sh,aC L ys,st,()),()))
 | [],pre,L,h,hb=>by
  rw[pK,aA (bj h)]
  rfl
 | y :: ys,pre,L,h,hb=>by
  rw[List.length_cons] at hb
  have hg:List.getD ks (Int.toNat (pre.length:Int)) au.dflt=y:=by rw[h]; exact gC
  rw[pK,aB (bu h),gZ h,hg,BV (by omega),Option.bind_some,aJ h (by omega)]
  dsimp only
  unfold aC
  by_cases e:y∈L
  ·rw[decide_eq_true e,if_neg (by decide),if_pos e]
   exact Gm ys _ L (az h) (by omega)
  ·rw[decide_eq_false e,if_pos (by decide),if_neg e,bd (by simp only[List.length_singleton]; omega)]
   exact Gm ys _ _ (az h) (by simp only[List.length_append,List.length_singleton]; omega)
theorem RL {sh:List ae} {st:List ao} : ∀(ys pre L:List ag),ks=pre++ys→L.length+ys.length≤100000000→gY (ks.length:Int) (pre.length:Int) sh L st ks=some ((),((sh,aC L ys,st,()),()))
 | [],pre,L,h,hb=>by
  rw[q8,aA (bj h)]
  rfl
 | y :: ys,pre,L,h,hb=>by
  rw[List.length_cons] at hb
  have hg:List.getD ks (Int.toNat (pre.length:Int)) au.dflt=y:=by rw[h]; exact gC
  rw[q8,aB (bu h),gZ h,hg,BV (by omega),Option.bind_some,aJ h (by omega)]
  dsimp only
  unfold aC
  by_cases e:y∈L
  ·rw[decide_eq_true e,if_neg (by decide),if_pos e]
   exact RL ys _ L (az h) (by omega)
  ·rw[decide_eq_false e,if_pos (by decide),if_neg e,bd (by simp only[List.length_singleton]; omega)]
   exact Gm hk ys _ _ (az h) (by simp only[List.length_append,List.length_singleton]; omega)
end
section
variable {s:List ae} (hs:bz s=true) {ar:List ag} (ha:ar.length≤60)
include hs ha
theorem Jy {L:List ag} {st:List ao} {k:Nat} {a:ag} : ∀(ys pre:List ae) (F:List ag),s=pre++ys→sn s ar F→F[k]? = some a→iO (k:Int) (s.length:Int) (pre.length:Int) s L st F=iK ((k+1:Nat):Int) s L st (ys.foldl (yb a) F)
 | [],pre,F,h,hI,hk=>by
  have hl:=hI.len
  have hu:=ve hs ha
  have hk1:=(List.getElem?_eq_some_iff.1 hk).1
  rw[rx,aA (bj h),fE (by omega) (by omega)]
  rfl
 | y :: ys,pre,F,h,hI,hk=>by
  have hn:=bn hs
  have hl:=hI.len
  have hu:=ve hs ha
  have hk1:=(List.getElem?_eq_some_iff.1 hk).1
  have hys:y∈s:=by rw[h]; simp
  have hy:y.2.1.size≤9223372036854775807:=oz hs y hys
  have hg:List.getD s (Int.toNat (pre.length:Int)) aj.dflt=y:=by rw[h]; exact gC
  have hga:List.getD F (Int.toNat (k:Int)) au.dflt=a:=by
   rw[Int.toNat_natCast,List.getD_eq_getElem?_getD,hk]
   rfl
  have har:=pR hy
  rw[rx,aB (bu h),gZ h,bC (nn _) (by omega),hg,hga,wv,Option.bind_some,aJ h (by omega),List.foldl_cons]
  dsimp only
  rw[show yb a F y=if dJ a y.1=true then aC F (fo y.2.1) else F from rfl]
  by_cases e:dJ a y.1=true
  ·rw[if_pos e,if_pos e,Yk hy,Option.bind_some,OU (Jr hy),Option.bind_some]
   show((jp (fo y.2.1) F).bind fun z4=>_)=_
   rw[O6 (by omega) (by omega),Option.bind_some]
   obtain⟨ex,hex⟩:=pm (fo y.2.1) F
   refine Jy ys _ _ (az h) (hI.add fun x hx => ?_) ?_
   ·exact List.mem_append_right _ (List.mem_flatMap.2 ⟨y,hys,hx⟩)
   ·rw[hex,List.getElem?_append_left hk1]
    exact hk
  ·rw[if_neg e,if_neg e]
   exact Jy ys _ _ (az h) hI hk
theorem Jz {L:List ag} {st:List ao} : ∀(n k:Nat) (F:List ag),sn s ar F→(lC s ar).length≤k+n→iK (k:Int) s L st F=gY ((wK s n k F).length:Int) 0 s L st (wK s n k F)∧sn s ar (wK s n k F)
 | 0,k,F,hI,hn=>by
  have hl:=hI.len
  rw[rs,aA (by omega)]
  exact⟨rfl,hI⟩
 | n+1,k,F,hI,hn=>by
  have hl:=hI.len
  rw[rs]
  unfold wK
  by_cases hk:k < F.length
  ·have hka:=pQ (d:=(au.dflt:ag)) hk
   rw[aB (by omega),hka]
   dsimp only
   have h7:=Jy hs ha (L:=L) (st:=st) s [] F rfl hI hka
   rw[BU] at h7
   obtain⟨h1,h2⟩:=Jz (L:=L) (st:=st) n (k+1) (aC F (sk s (F.getD k au.dflt))) (hI.add fun x hx=>O5 hx) (by omega)
   exact⟨h7.trans h1,h2⟩
  ·rw[aA (by omega),List.getElem?_eq_none (by omega)]
   exact⟨rfl,hI⟩
theorem Wh:sn s ar (nr s ar):=(Jz hs ha (L:=[]) (st:=[]) _ 0 _ (sn.first s ar) (by omega)).2
theorem Ld:(nr s ar).length≤7260:=Nat.le_trans (Wh hs ha).len (ve hs ha)
end
theorem XW {s:List ae} (hs:bz s=true) {f:List aa} (hf:f.length≤60) {L:List ag} {st:List ao} (hL:L.length≤10000000):tP f s L st=some ((),((s,aC L (nr s (b7 f)),st,()),())):=by
 have ha:(b7 f).length≤60:=Nat.le_trans (Ii f) hf
 have hlen:=Ld hs ha
 obtain⟨h1,_⟩:=Jz hs ha (L:=L) (st:=st) (lC s (b7 f)).length 0 _ (sn.first s (b7 f)) (by omega)
 rw[FV,OU hf,Option.bind_some]
 dsimp only
 rw[O6 (by omega) (by decide),Option.bind_some]
 refine Eq.trans h1 ?_
 exact RL (ks:=nr s (b7 f)) (by omega) (nr s (b7 f)) [] L rfl (by omega)
structure oP (s:List ae) (ar todo:List ag):Prop where
 ext : ∃ ex,todo=ar++ex∧ex.Nodup ∧ ∀ x∈ex,x ∉ ar∧x∈lC s ar
theorem oP.len {s:List ae} {ar todo:List ag} (h:oP s ar todo):todo.length≤ar.length+(lC s ar).length:=by
 obtain⟨ex,e,hd,hx⟩:=h.ext
 have:=ya ex (lC s ar) hd fun x h=>(hx x h).2
 rw[e,List.length_append]
 omega
theorem oP.add {s:List ae} {ar:List ag} : ∀(ks todo:List ag),oP s ar todo→(∀ x∈ks,x∈lC s ar)→oP s ar (aC todo ks)
 | [],todo,h,_=>h
 | k :: ks,todo,h,hk=>by
  unfold aC
  by_cases e:k∈todo
  ·rw[if_pos e]
   exact oP.add ks todo h fun x hx=>hk x (List.mem_cons_of_mem _ hx)
  ·rw[if_neg e]
   refine oP.add ks _ ?_ fun x hx=>hk x (List.mem_cons_of_mem _ hx)
   obtain⟨ex,e1,hd,hx⟩:=h.ext
   refine⟨ex++[k],by rw[e1]; simp,?_,fun x h => ?_⟩
   ·rw[List.nodup_append]
    refine⟨hd,by simp,fun a ha b hb => ?_⟩
    rw[List.mem_singleton.1 hb]
    intro c
    exact e (e1 ▸ List.mem_append_right _ (c ▸ ha))
   ·rcases List.mem_append.1 h with h | h
    ·exact hx x h
    ·rw[List.mem_singleton.1 h]
     exact⟨fun c=>e (e1 ▸ List.mem_append_left _ c),hk k (by simp)⟩
section
variable {i k j:Nat} {at' steps code:Int} {z1 z2 z3:Int} {sets:List ao} {x0:List ae} {x1:List ag} {x2:List ao} {s:List ae}
theorem O7 {looks todo more:List ag} (ht:todo.length≤1000000) {a:ag} (hm:more[j]? = some a) : ∀(ys pre:List ag) (b:Bool),todo=pre++ys →
  mA (i:Int) (k:Int) (j:Int) b (pre.length:Int) s at' steps code sets z1 z2 z3 todo more looks x0 x1 x2=if(b || decide (a∈ys))=true then iR (i:Int) (k:Int) (IntKind.i64.wrap ((j:Int)+1)) s at' steps code sets z1 z2 z3 todo more looks x0 x1 x2 else iR (i:Int) (k:Int) (IntKind.i64.wrap ((j:Int)+1)) s at' steps code sets z1 z2 z3 (todo++[a]) more looks x0 x1 x2
 | [],pre,b,h=>by
  have hj:=(List.getElem?_eq_some_iff.1 hm).1
  have hg:List.getD more (Int.toNat (j:Int)) au.dflt=a:=by
   rw[Int.toNat_natCast,List.getD_eq_getElem?_getD,hm]
   rfl
  rw[xM,aA (bj h),bC (nn _) (by omega),hg,bd (by simp only[List.length_singleton]; omega)]
  cases b <;> simp
 | y :: ys,pre,b,h=>by
  have hj:=(List.getElem?_eq_some_iff.1 hm).1
  have hg:List.getD more (Int.toNat (j:Int)) au.dflt=a:=by
   rw[Int.toNat_natCast,List.getD_eq_getElem?_getD,hm]
   rfl
  have hgy:List.getD todo (Int.toNat (pre.length:Int)) au.dflt=y:=by rw[h]; exact gC
  rw[xM,aB (bu h),aJ h (by omega),gZ h,bC (nn _) (by omega),hg,hgy,Jw,O7 ht hm ys _ true (az h),O7 ht hm ys _ _ (az h)]
  cases b with
  | true=>simp
  | false =>
   rw[if_neg (by decide)]
   have e:(decide (y=a) || decide (a∈ys))=(false || decide (a∈y :: ys)):=by
    rw[Bool.false_or,Bool.eq_iff_iff,Bool.or_eq_true,decide_eq_true_eq,decide_eq_true_eq,decide_eq_true_eq,List.mem_cons]
    constructor
    ·rintro(e | e)
     ·exact .inl e.symm
     ·exact .inr e
    ·rintro(e | e)
     ·exact .inl e.symm
     ·exact .inr e
   rw[e]
theorem JA {looks todo more:List ag} (ht:todo.length≤1000000) {a:ag} (hm:more[j]? = some a) : ∀(ys pre:List ag) (b:Bool),todo=pre++ys →
  kY (i:Int) (k:Int) (j:Int) b (pre.length:Int) s at' steps code looks sets z1 z2 z3 todo more x0 x1 x2=if(b || decide (a∈ys))=true then gR (i:Int) (k:Int) (IntKind.i64.wrap ((j:Int)+1)) s at' steps code looks sets z1 z2 z3 todo more x0 x1 x2 else gR (i:Int) (k:Int) (IntKind.i64.wrap ((j:Int)+1)) s at' steps code looks sets z1 z2 z3 (todo++[a]) more x0 x1 x2
 | [],pre,b,h=>by
  have hj:=(List.getElem?_eq_some_iff.1 hm).1
  have hg:List.getD more (Int.toNat (j:Int)) au.dflt=a:=by
   rw[Int.toNat_natCast,List.getD_eq_getElem?_getD,hm]
   rfl
  rw[wl,aA (bj h),bC (nn _) (by omega),hg,bd (by simp only[List.length_singleton]; omega)]
  cases b <;> simp
 | y :: ys,pre,b,h=>by
  have hj:=(List.getElem?_eq_some_iff.1 hm).1
  have hg:List.getD more (Int.toNat (j:Int)) au.dflt=a:=by
   rw[Int.toNat_natCast,List.getD_eq_getElem?_getD,hm]
   rfl
  have hgy:List.getD todo (Int.toNat (pre.length:Int)) au.dflt=y:=by rw[h]; exact gC
  rw[wl,aB (bu h),aJ h (by omega),gZ h,bC (nn _) (by omega),hg,hgy,Jw,JA ht hm ys _ true (az h),JA ht hm ys _ _ (az h)]
  cases b with
  | true=>simp
  | false =>
   rw[if_neg (by decide)]
   have e:(decide (y=a) || decide (a∈ys))=(false || decide (a∈y :: ys)):=by
    rw[Bool.false_or,Bool.eq_iff_iff,Bool.or_eq_true,decide_eq_true_eq,decide_eq_true_eq,decide_eq_true_eq,List.mem_cons]
    constructor
    ·rintro(e | e)
     ·exact .inl e.symm
     ·exact .inr e
    ·rintro(e | e)
     ·exact .inl e.symm
     ·exact .inr e
   rw[e]
theorem O8 {looks more:List ag} (hm:more.length≤60) : ∀(ys pre todo:List ag),more=pre++ys→todo.length+ys.length≤100000 →
  iR (i:Int) (k:Int) (pre.length:Int) s at' steps code sets z1 z2 z3 todo more looks x0 x1 x2=dR (i:Int) (IntKind.i64.wrap ((k:Int)+1)) s at' steps code sets z1 z2 z3 (aC todo ys) looks x0 x1 x2
 | [],pre,todo,h,hb=>by
  rw[xK,aA (bj h)]
  rfl
 | y :: ys,pre,todo,h,hb=>by
  rw[List.length_cons] at hb
  have hg:more[pre.length]? = some y:=by rw[h]; simp
  have h22:=O7 (i:=i) (k:=k) (j:=pre.length) (at':=at') (steps:=steps) (code:=code) (z1:=z1) (z2:=z2) (z3:=z3) (sets:=sets) (x0:=x0) (x1:=x1) (x2:=x2) (s:=s) (looks:=looks) (todo:=todo) (by omega) hg todo [] false rfl
  rw[xK,aB (bu h)]
  refine Eq.trans h22 ?_
  rw[Bool.false_or,aJ h (by omega)]
  unfold aC
  by_cases e:y∈todo
  ·rw[decide_eq_true e,if_pos rfl,if_pos e]
   exact O8 hm ys _ todo (az h) (by omega)
  ·rw[decide_eq_false e,if_neg (by decide),if_neg e]
   exact O8 hm ys _ _ (az h) (by simp only[List.length_append,List.length_singleton]; omega)
theorem JB {looks more:List ag} (hm:more.length≤60) : ∀(ys pre todo:List ag),more=pre++ys→todo.length+ys.length≤100000 →
  gR (i:Int) (k:Int) (pre.length:Int) s at' steps code looks sets z1 z2 z3 todo more x0 x1 x2=gQ (i:Int) (IntKind.i64.wrap ((k:Int)+1)) s at' steps code looks sets z1 z2 z3 (aC todo ys) x0 x1 x2
 | [],pre,todo,h,hb=>by
  rw[wk,aA (bj h)]
  rfl
 | y :: ys,pre,todo,h,hb=>by
  rw[List.length_cons] at hb
  have hg:more[pre.length]? = some y:=by rw[h]; simp
  have h22:=JA (i:=i) (k:=k) (j:=pre.length) (at':=at') (steps:=steps) (code:=code) (z1:=z1) (z2:=z2) (z3:=z3) (sets:=sets) (x0:=x0) (x1:=x1) (x2:=x2) (s:=s) (looks:=looks) (todo:=todo) (by omega) hg todo [] false rfl
  rw[wk,aB (bu h)]
  refine Eq.trans h22 ?_
  rw[Bool.false_or,aJ h (by omega)]
  unfold aC
  by_cases e:y∈todo
  ·rw[decide_eq_true e,if_pos rfl,if_pos e]
   exact JB hm ys _ todo (az h) (by omega)
  ·rw[decide_eq_false e,if_neg (by decide),if_neg e]
   exact JB hm ys _ _ (az h) (by simp only[List.length_append,List.length_singleton]; omega)
section
variable (hs:bz s=true) {ar:List ag} (ha:ar.length≤60)
include hs ha
theorem O9 {looks:List ag} {a:ag} : ∀(ys pre:List ae) (todo:List ag),s=pre++ys→oP s ar todo→todo[i]? = some a →
  dR (i:Int) (pre.length:Int) s at' steps code sets z1 z2 z3 todo looks x0 x1 x2=mz (IntKind.i64.wrap ((i:Int)+1)) s at' steps code sets z1 z2 z3 (ys.foldl (yb a) todo) looks x0 x1 x2
 | [],pre,todo,h,hI,hi=>by
  rw[xJ,aA (bj h)]
  rfl
 | y :: ys,pre,todo,h,hI,hi=>by
  have hn:=bn hs
  have hl:=hI.len
  have hu:=ve hs ha
  have hi1:=(List.getElem?_eq_some_iff.1 hi).1
  have hys:y∈s:=by rw[h]; simp
  have hy:y.2.1.size≤9223372036854775807:=oz hs y hys
  have hg:List.getD todo (Int.toNat (i:Int)) au.dflt=a:=by
   rw[Int.toNat_natCast,List.getD_eq_getElem?_getD,hi]
   rfl
  have har:=pR hy
  rw[xJ,aB (bu h),br h,bC (nn _) (by omega),hg,rf,Option.bind_some,br h,sU hy,Option.bind_some,aJ h (by omega),List.foldl_cons]
  dsimp only
  rw[show yb a todo y=if dJ a y.1=true then aC todo (fo y.2.1) else todo from rfl]
  by_cases e:dJ a y.1=true
  ·have h18:=O8 (i:=i) (k:=pre.length) (at':=at') (steps:=steps) (code:=code) (z1:=z1) (z2:=z2) (z3:=z3) (sets:=sets) (x0:=x0) (x1:=x1) (x2:=x2) (s:=s) (looks:=looks) (more:=fo y.2.1) har (fo y.2.1) [] todo rfl (by omega)
   obtain⟨ex,hex⟩:=pm (fo y.2.1) todo
   rw[e,if_neg (by decide),if_pos rfl]
   refine Eq.trans h18 ?_
   rw[aJ h (by omega)]
   refine O9 ys _ _ (az h) (hI.add _ _ fun x hx=>List.mem_append_right _ (List.mem_flatMap.2 ⟨y,hys,hx⟩)) ?_
   rw[hex,List.getElem?_append_left hi1]
   exact hi
  ·have e:dJ a y.1=false:=by simpa using e
   rw[e,if_pos (by decide),if_neg (by decide)]
   exact O9 ys _ _ (az h) hI hi
theorem JC {looks:List ag} {a:ag} : ∀(ys pre:List ae) (todo:List ag),s=pre++ys→oP s ar todo→todo[i]? = some a →
  gQ (i:Int) (pre.length:Int) s at' steps code looks sets z1 z2 z3 todo x0 x1 x2=lm (IntKind.i64.wrap ((i:Int)+1)) s at' steps code looks sets z1 z2 z3 (ys.foldl (yb a) todo) x0 x1 x2
 | [],pre,todo,h,hI,hi=>by
  rw[wj,aA (bj h)]
  rfl
 | y :: ys,pre,todo,h,hI,hi=>by
  have hn:=bn hs
  have hl:=hI.len
  have hu:=ve hs ha
  have hi1:=(List.getElem?_eq_some_iff.1 hi).1
  have hys:y∈s:=by rw[h]; simp
  have hy:y.2.1.size≤9223372036854775807:=oz hs y hys
  have hg:List.getD todo (Int.toNat (i:Int)) au.dflt=a:=by
   rw[Int.toNat_natCast,List.getD_eq_getElem?_getD,hi]
   rfl
  have har:=pR hy
  rw[wj,aB (bu h),br h,bC (nn _) (by omega),hg,rf,Option.bind_some,br h,sU hy,Option.bind_some,aJ h (by omega),List.foldl_cons]
  dsimp only
  rw[show yb a todo y=if dJ a y.1=true then aC todo (fo y.2.1) else todo from rfl]
  by_cases e:dJ a y.1=true
  ·have h18:=JB (i:=i) (k:=pre.length) (at':=at') (steps:=steps) (code:=code) (z1:=z1) (z2:=z2) (z3:=z3) (sets:=sets) (x0:=x0) (x1:=x1) (x2:=x2) (s:=s) (looks:=looks) (more:=fo y.2.1) har (fo y.2.1) [] todo rfl (by omega)
   obtain⟨ex,hex⟩:=pm (fo y.2.1) todo
   rw[e,if_neg (by decide),if_pos rfl]
   refine Eq.trans h18 ?_
   rw[aJ h (by omega)]
   refine JC ys _ _ (az h) (hI.add _ _ fun x hx=>List.mem_append_right _ (List.mem_flatMap.2 ⟨y,hys,hx⟩)) ?_
   rw[hex,List.getElem?_append_left hi1]
   exact hi
  ·have e:dJ a y.1=false:=by simpa using e
   rw[e,if_pos (by decide),if_neg (by decide)]
   exact JC ys _ _ (az h) hI hi
end
theorem TT {looks todo:List ag} (ht:todo.length≤100000) (hl:looks.length≤100000000) {a:ag} (hi:todo[i]? = some a) : ∀(ys pre:List ag) (b:Bool),looks=pre++ys →
  oh (i:Int) b (pre.length:Int) s at' steps code looks sets z1 z2 z3 todo x0 x1 x2=if(b || decide (a∈ys))=true then gQ (i:Int) 0 s at' steps code looks sets z1 z2 z3 todo x0 x1 x2 else dR (i:Int) 0 s at' steps code sets z1 z2 z3 todo (looks++[a]) x0 x1 x2
 | [],pre,b,h=>by
  have hi1:=(List.getElem?_eq_some_iff.1 hi).1
  have hg:List.getD todo (Int.toNat (i:Int)) au.dflt=a:=by
   rw[Int.toNat_natCast,List.getD_eq_getElem?_getD,hi]
   rfl
  rw[Ai,aA (bj h),bd (by simp only[List.length_nil]; omega),bC (nn _) (by omega),hg,List.nil_append,bd (by simp only[List.length_singleton]; omega)]
  cases b <;> simp
 | y :: ys,pre,b,h=>by
  have hi1:=(List.getElem?_eq_some_iff.1 hi).1
  have hg:List.getD todo (Int.toNat (i:Int)) au.dflt=a:=by
   rw[Int.toNat_natCast,List.getD_eq_getElem?_getD,hi]
   rfl
  rw[Ai,aB (bu h),aJ h (by omega),br h,bC (nn _) (by omega),hg,Jw,TT ht hl hi ys _ true (az h),TT ht hl hi ys _ _ (az h)]
  cases b with
  | true=>simp
  | false =>
   rw[if_neg (by decide)]
   have e:(decide (y=a) || decide (a∈ys))=(false || decide (a∈y :: ys)):=by
    rw[Bool.false_or,Bool.eq_iff_iff,Bool.or_eq_true,decide_eq_true_eq,decide_eq_true_eq,decide_eq_true_eq,List.mem_cons]
    constructor
    ·rintro(e | e)
     ·exact .inl e.symm
     ·exact .inr e
    ·rintro(e | e)
     ·exact .inl e.symm
     ·exact .inr e
   rw[e]
theorem Pa {looks todo:List ag} (ht:todo.length≤100000) (hl:looks.length≤100000000) {a:ag} (hi:todo[i]? = some a) : ∀(ys pre:List ag) (b:Bool),looks=pre++ys →
  mB (i:Int) b (pre.length:Int) s at' steps code sets z1 z2 z3 todo looks x0 x1 x2=if(b || decide (a∈ys))=true then dR (i:Int) 0 s at' steps code sets z1 z2 z3 todo looks x0 x1 x2 else dR (i:Int) 0 s at' steps code sets z1 z2 z3 todo (looks++[a]) x0 x1 x2
 | [],pre,b,h=>by
  have hi1:=(List.getElem?_eq_some_iff.1 hi).1
  have hg:List.getD todo (Int.toNat (i:Int)) au.dflt=a:=by
   rw[Int.toNat_natCast,List.getD_eq_getElem?_getD,hi]
   rfl
  rw[xN,aA (bj h),bd (by simp only[List.length_nil]; omega),bC (nn _) (by omega),hg,List.nil_append,bd (by simp only[List.length_singleton]; omega)]
  cases b <;> simp
 | y :: ys,pre,b,h=>by
  have hi1:=(List.getElem?_eq_some_iff.1 hi).1
  have hg:List.getD todo (Int.toNat (i:Int)) au.dflt=a:=by
   rw[Int.toNat_natCast,List.getD_eq_getElem?_getD,hi]
   rfl
  have hgy:List.getD looks (Int.toNat (pre.length:Int)) au.dflt=y:=by rw[h]; exact gC
  rw[xN,aB (bu h),aJ h (by omega),gZ h,bC (nn _) (by omega),hg,hgy,Jw,Pa ht hl hi ys _ true (az h),Pa ht hl hi ys _ _ (az h)]
  cases b with
  | true=>simp
  | false =>
   rw[if_neg (by decide)]
   have e:(decide (y=a) || decide (a∈ys))=(false || decide (a∈y :: ys)):=by
    rw[Bool.false_or,Bool.eq_iff_iff,Bool.or_eq_true,decide_eq_true_eq,decide_eq_true_eq,decide_eq_true_eq,List.mem_cons]
    constructor
    ·rintro(e | e)
     ·exact .inl e.symm
     ·exact .inr e
    ·rintro(e | e)
     ·exact .inl e.symm
     ·exact .inr e
   rw[e]
end
section
variable {at' steps code:Int} {z1 z2 z3:Int} {sets:List ao} {x0:List ae} {x1:List ag} {x2:List ao} {s:List ae} (hs:bz s=true) {ar:List ag} (ha:ar.length≤60) {L:List ag} (hL:L.length≤10000000)
include hs ha hL
theorem Wi (n:Nat) (pre:List ag) :
  lm (pre.length:Int) s at' steps code (aC L pre) sets z1 z2 z3 (pre++[]) x0 x1 x2=some (((s,at',steps,code,aC L (wK s n (aC [] pre).length (aC [] (pre++[]))),sets,()),()),()) ∧
  mz (pre.length:Int) s at' steps code sets z1 z2 z3 (pre++[]) (aC L pre) x0 x1 x2=some (((s,at',steps,code,aC L (wK s n (aC [] pre).length (aC [] (pre++[]))),sets,()),()),()):=by
  have e1:wK s n (aC [] pre).length (aC [] pre)=aC [] pre:=by
   cases n with
   | zero=>rfl
   | succ n =>
    unfold wK
    rw[List.getElem?_eq_none (Nat.le_refl _)]
  rw[Ad,xL,List.append_nil,aA (by omega),aA (by omega),e1,Z8]
  exact⟨rfl,rfl⟩
theorem Zc : ∀(m n:Nat) (pre ys:List ag),oP s ar (pre++ys)→(∀ b∈pre,∀ x∈sk s b,x∈pre++ys)→(lC s ar).length≤(aC [] pre).length+n→n*100000+ys.length≤m →
  lm (pre.length:Int) s at' steps code (aC L pre) sets z1 z2 z3 (pre++ys) x0 x1 x2=some (((s,at',steps,code,aC L (wK s n (aC [] pre).length (aC [] (pre++ys))),sets,()),()),()) ∧
  mz (pre.length:Int) s at' steps code sets z1 z2 z3 (pre++ys) (aC L pre) x0 x1 x2=some (((s,at',steps,code,aC L (wK s n (aC [] pre).length (aC [] (pre++ys))),sets,()),()),()):=by
 intro m
 induction m with
 | zero =>
  intro n pre ys hT hc hn hm
  cases ys with
  | nil=>exact Wi hs ha hL n pre
  | cons y ys =>
   rw[List.length_cons] at hm
   omega
 | succ m ih =>
  intro n pre ys hT hc hn hm
  cases ys with
  | nil=>exact Wi hs ha hL n pre
  | cons y ys =>
   rw[List.length_cons] at hm
   have hlen:=hT.len
   have hu:=ve hs ha
   rw[List.length_append,List.length_cons] at hlen
   have hLl:=tJ L pre
   have hi:(pre++y :: ys)[pre.length]? = some y:=by simp
   have hlt:(pre.length:Int) < ((pre++y :: ys).length:Int):=by simp only[List.length_append,List.length_cons]; omega
   have hw:IntKind.i64.wrap ((pre.length:Int)+1)=((pre++[y]).length:Int):=by
    rw[fE (by omega) (by omega)]
    simp
   have h7:=TT (i:=pre.length) (at':=at') (steps:=steps) (code:=code) (z1:=z1) (z2:=z2) (z3:=z3) (sets:=sets) (x0:=x0) (x1:=x1) (x2:=x2) (s:=s) (looks:=aC L pre) (todo:=pre++y :: ys) (by rw[List.length_append,List.length_cons]; omega) (by omega) hi (aC L pre) [] false rfl
   have h7':=Pa (i:=pre.length) (at':=at') (steps:=steps) (code:=code) (z1:=z1) (z2:=z2) (z3:=z3) (sets:=sets) (x0:=x0) (x1:=x1) (x2:=x2) (s:=s) (looks:=aC L pre) (todo:=pre++y :: ys) (by rw[List.length_append,List.length_cons]; omega) (by omega) hi (aC L pre) [] false rfl
   have h13:=fun lk=>O9 (i:=pre.length) (at':=at') (steps:=steps) (code:=code) (z1:=z1) (z2:=z2) (z3:=z3) (sets:=sets) (x0:=x0) (x1:=x1) (x2:=x2) hs ha (looks:=lk) s [] (pre++y :: ys) rfl hT hi
   have h13':=fun lk=>JC (i:=pre.length) (at':=at') (steps:=steps) (code:=code) (z1:=z1) (z2:=z2) (z3:=z3) (sets:=sets) (x0:=x0) (x1:=x1) (x2:=x2) hs ha (looks:=lk) s [] (pre++y :: ys) rfl hT hi
   rw[BU] at h13 h13'
   obtain⟨ex,hex⟩:=pm (sk s y) (pre++y :: ys)
   have hT':oP s ar (aC (pre++y :: ys) (sk s y)):=hT.add _ _ fun x hx=>O5 hx
   have hsplit:aC (pre++y :: ys) (sk s y)=(pre++[y])++(ys++ex):=by rw[hex]; simp
   have hmem : ∀ x,x∈(pre++[y])++(ys++ex)↔x∈pre++y :: ys∨x∈sk s y:=fun x=>by rw[←hsplit,si]
   have hclo : ∀ b∈pre++[y],∀ x∈sk s b,x∈(pre++[y])++(ys++ex):=by
    intro b hb x hx
    rw[hmem]
    rcases List.mem_append.1 hb with hb | hb
    ·exact .inl (hc b hb x hx)
    ·rw[List.mem_singleton.1 hb] at hx
     exact .inr hx
   have hone:aC L (pre++[y])=if y∈aC L pre then aC L pre else aC L pre++[y]:=by
    by_cases h:y∈aC L pre
    ·rw[jP,sj,if_pos h,if_pos h]
    ·rw[jP,sj,if_neg h,if_neg h]
   have hDone:aC [] (pre++[y])=if y∈aC [] pre then aC [] pre else aC [] pre++[y]:=by
    by_cases h:y∈aC [] pre
    ·rw[jP,sj,if_pos h,if_pos h]
    ·rw[jP,sj,if_neg h,if_neg h]
   have hr : ∃ n',n'*100000+(ys++ex).length≤m∧(lC s ar).length≤(aC [] (pre++[y])).length+n'∧wK s n (aC [] pre).length (aC [] (pre++y :: ys))=wK s n' (aC [] (pre++[y])).length (aC [] ((pre++[y])++(ys++ex))):=by
    by_cases hy:y∈pre
    ·have hin:aC (pre++y :: ys) (sk s y)=pre++y :: ys:=RH _ _ fun x hx=>hc y hy x hx
     have hex0:ex=[]:=by
      rw[hex] at hin
      exact List.append_right_eq_self.1 hin
     subst hex0
     have e1:aC [] (pre++[y])=aC [] pre:=by rw[hDone,if_pos ((L5 _ _).2 hy)]
     refine⟨n,by rw[List.append_nil]; omega,by rw[e1]; exact hn,?_⟩
     rw[e1,List.append_nil,show pre++[y]++ys=pre++y :: ys by simp]
    ·have hyD:y ∉ aC [] pre:=fun h=>hy ((L5 _ _).1 h)
     have e1:aC [] (pre++[y])=aC [] pre++[y]:=by rw[hDone,if_neg hyD]
     have e2 : ∃ ex2,aC [] (pre++y :: ys)=(aC [] pre++[y])++ex2:=by
      rw[show pre++y :: ys=(pre++[y])++ys by simp,aas,e1]
      exact pm _ _
     obtain⟨ex2,e2⟩:=e2
     have hDl:(aC [] (pre++y :: ys)).length≤(lC s ar).length:=ya _ _ (RJ _) fun x hx=>by
      obtain⟨ex3,e3,_,e4⟩:=hT.ext
      have:=(L5 _ _).1 hx
      rw[e3] at this
      rcases List.mem_append.1 this with h | h
      ·exact List.mem_append_left _ h
      ·exact(e4 x h).2
     rw[e2] at hDl
     simp only[List.length_append,List.length_singleton] at hDl
     obtain⟨n',rfl⟩ : ∃ n',n=n'+1:=⟨n - 1,by omega⟩
     have hexl:=hT'.len
     rw[hsplit] at hexl
     simp only[List.length_append,List.length_singleton] at hexl
     have hm2:n'*100000+100000+(ys.length+1)≤m+1:=by rw[←Nat.succ_mul]; exact hm
     have hml:n'*100000+(ys++ex).length≤m:=by
      rw[List.length_append]
      clear hn hDl hLl hlen
      generalize n'*100000=q at hm2 ⊢
      omega
     refine⟨n',hml,by rw[e1,List.length_append,List.length_singleton]; omega,?_⟩
     have hget:(aC [] (pre++y :: ys))[(aC [] pre).length]? = some y:=by
      rw[e2]
      simp
     conv=>lhs; unfold wK
     rw[hget]
     dsimp only
     rw[e1,List.length_append,List.length_singleton,←hsplit,aat]
   obtain⟨n',hm',hn',hlk⟩:=hr
   obtain⟨r1,r2⟩:=ih n' (pre++[y]) (ys++ex) (by rw[←hsplit]; exact hT') hclo hn' hm'
   rw[hlk]
   constructor
   ·rw[Ad,aB hlt]
    refine Eq.trans h7 ?_
    rw[Bool.false_or]
    by_cases hy:y∈aC L pre
    ·rw[decide_eq_true hy,if_pos rfl]
     rw[hone,if_pos hy] at r1
     refine Eq.trans (h13' _) ?_
     rw[hsplit,hw]
     exact r1
    ·rw[decide_eq_false hy,if_neg (by decide)]
     rw[hone,if_neg hy] at r2
     refine Eq.trans (h13 _) ?_
     rw[hsplit,hw]
     exact r2
   ·rw[xL,aB hlt]
    refine Eq.trans h7' ?_
    rw[Bool.false_or]
    by_cases hy:y∈aC L pre
    ·rw[decide_eq_true hy,if_pos rfl]
     rw[hone,if_pos hy] at r2
     refine Eq.trans (h13 _) ?_
     rw[hsplit,hw]
     exact r2
    ·rw[decide_eq_false hy,if_neg (by decide)]
     rw[hone,if_neg hy] at r2
     refine Eq.trans (h13 _) ?_
     rw[hsplit,hw]
     exact r2
end
theorem XX {s:List ae} (hs:bz s=true) {at' steps code:Int} {L:List ag} {sets:List ao} {x:ByteArray} (hx:x.size≤1000000) (hL:L.length≤10000000):A6 (s,at',steps,code,L,sets,()) x=some (((s,at',steps,code,aC L (nr s (fo ((⟨#[61]⟩:ByteArray)++x))),sets,()),()),()):=by
 have h1:(⟨#[61]⟩:ByteArray).size=1:=rfl
 have h2:((⟨#[61]⟩:ByteArray)++x).size≤9223372036854775807:=by
  rw[ByteArray.size_append,h1]
  omega
 have ha:=pR h2
 rw[PQ,fy (by rw[h1]; omega),sU h2,Option.bind_some]
 have hT:oP s (fo ((⟨#[61]⟩:ByteArray)++x)) ([]++fo ((⟨#[61]⟩:ByteArray)++x)):=⟨[],by simp,List.nodup_nil,fun x hx=>by cases hx⟩
 obtain⟨r1,_⟩:=Zc (at':=at') (steps:=steps) (code:=code) (z1:=0) (z2:=0) (z3:=0) (sets:=sets) (x0:=[]) (x1:=[]) (x2:=[]) hs ha hL _ (lC s (fo ((⟨#[61]⟩:ByteArray)++x))).length [] (fo ((⟨#[61]⟩:ByteArray)++x)) hT (fun b hb=>by cases hb) (by omega) (Nat.le_refl _)
 exact r1
end Go.Proofs.YteaahciglahehaaGreatDoor.Abs
