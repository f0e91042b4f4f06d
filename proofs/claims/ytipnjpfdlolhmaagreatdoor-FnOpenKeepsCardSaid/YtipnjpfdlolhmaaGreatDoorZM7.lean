/- Plain laws: whatever its state, the program's reader comes to an end, keeps what it has put and does not forget that it is bad. -/
import Derived.Test.YtipnjpfdlolhmaaGreatDoorZM6
import Derived.Lib.SplitLaws
set_option linter.unusedVariables false
set_option linter.unusedSimpArgs false
set_option linter.unusedSectionVars false
open Bool renaming and_eq_true→Z8,false_eq_true→Z5,false_or→fo_,not_false→as_,not_true→aj_,or_eq_true→cx_,true_and→bj_
open ByteArray renaming toList→Z6
open List renaming all_append→cf_,all_eq_true→cc_,append_nil→bz_,cons_append→ck_,dropWhile_cons_of_neg→au_,dropWhile_suffix→ge_,drop_succ_cons→bh_,drop_zero→ce_,getD_eq_getElem?_getD→ak_,length_append→Z7,length_cons→aa_,length_map→cn_,length_nil→bg_,length_pos_iff→eb_,length_singleton→Z4,length→ac_,map_append→fs_,map_cons→bb_,map_map→fj_,mem_cons→bd_,nil_append→ei_,prefix_refl→dh_,takeWhile_cons_of_neg→em_
open Nat renaming le_trans→bf_
open Option renaming bind_some→Z1
open Option.some renaming injEq→ap_
open Prod.mk renaming injEq→fa_
open _root_ renaming ByteArray→Z0,congrArg→ae_,decide_eq_false→bm_,decide_eq_true_eq→Z9,decide_eq_true→ba_,decide_false→ca_,decide_true→bv_,if_false→ad_,if_neg→Z2,if_pos→Z3,if_true→al_
namespace Go.Proofs.YtipnjpfdlolhmaaGreatDoor.Abs
open Go
abbrev RI:=Option ((Int×Unit)×(p6×Unit))
def vm (x:ab):Bool:=decide (x.2.2.1.2.2.1.size≤100000) && decide (x.2.2.2.2.2.1.length≤100000)
def sm (ns:List ab):Bool:=ns.all vm
def hZ (l:ag) (b:Bool) (ns:List ab) (F:RI):Prop :=
 ∃(i:Int) (l':ag) (b':Bool) (ns':List ab),F=some ((i,()),((ba l',ns',b',()),()))∧l' <:+ l∧(b=true→b'=true)∧ns <+: ns'∧ns'.length≤60∧(sm ns=true→sm ns'=true)
theorem hZ.mono {l l0:ag} {b b0:Bool} {ns ns0:List ab} {F:RI} (h:hZ l b ns F) (h1:l <:+ l0) (h2:b0=true→b=true) (h3:ns0 <+: ns) (h4:sm ns0=true→sm ns=true:=by exact id):hZ l0 b0 ns0 F:=by
 obtain⟨i,l',b',ns',e,k1,k2,k3,k4,k5⟩:=h
 exact⟨i,l',b',ns',e,aj k1 h1,fun h=>k2 (h2 h),List.IsPrefix.trans h3 k3,k4,fun h=>k5 (h4 h)⟩
theorem og (l:ag):l <:+ l:=List.suffix_refl l
theorem fk {x:ab} {l:ag} {b:Bool} {ns:List ab} (hn:ns.length≤60) (hx:vm x=true:=by rfl):hZ l b ns (aI x (ba l) b ns):=by
 obtain⟨i,h,_⟩:=xA (x:=x) (l:=l) (b:=b) hn
 refine⟨i,l,_,_,h,og l,(fun hb=>by rw[hb]; rfl),?_,?_,?_⟩
 ·split
  ·exact⟨[x],rfl⟩
  ·exact dh_ _
 ·split
  ·rename_i h
   rw[Z7,Z4]
   omega
  ·exact hn
 ·intro hs
  split
  ·unfold sm at hs ⊢
   rw[cf_,hs]
   simp[hx]
  ·exact hs
theorem Pa {v:ae} (h:v.2.2.1.size≤100000):vm (nC v)=true:=by
 unfold vm
 rw[ba_ h]
 rfl
theorem F3 {op:Int} {y:List Int} (h:y.length≤100000):vm (6,op,(0,0,(⟨#[]⟩:Z0),()),((0,0,()),false,false,()),((0,0,()),false,false,()),y,())=true:=by
 unfold vm
 rw[Z8]
 exact⟨rfl,ba_ h⟩
theorem jC {v:ae} {r:Z0} {b:Bool} {ns:List ab}:bS v r b ns=aI (nC v) r b ns:=by
 rw[zO]
 exact gK
theorem xB {i:Int} {l:ag} {b:Bool} {ns:List ab} (hn:ns.length≤60):hZ l b ns (some ((i,()),((ba l,ns,true,()),()))) :=
 ⟨i,l,true,ns,rfl,og l,fun _=>rfl,dh_ _,hn,id⟩
theorem iA {l:ag} {c:UInt8} (h:l.head? = some c) : ∃ t,l=c :: t:=by
 cases l with
 | nil=>cases h
 | cons y t =>
  simp only[List.head?_cons,ap_] at h
  exact⟨t,by rw[h]⟩
theorem oh {l:ag} {c:UInt8} (h:(bl l).head? = some c):((bl l).drop 1).length < l.length:=by
 have:=aJ (ay l)
 obtain⟨t,ht⟩:=iA h
 rw[ht] at this ⊢
 simp only[aa_,bh_,ce_] at this ⊢
 omega
theorem iB (l:ag):(bl l).drop 1 <:+ l:=aj (gh 1 _) (ay l)
theorem Mh (l:ag):(bl l).dropWhile aP <:+ l:=aj (ge_ _) (ay l)
theorem G9 (l:ag):(jR (bl l)).dropWhile aP <:+ l :=
 aj (ge_ _) (aj (ay _) (aj (gh 1 _) (aj (ay _) (Mh l))))
section
variable {n:Nat} (HB : ∀ l:ag,l.length < n → ∀(deep least:Int) (b:Bool) (ns:List ab),0≤deep→deep+(l.length:Int)≤400→ns.length≤60→hZ l b ns (bv least deep (ba l) b ns))
include HB
theorem IA : ∀(m:Nat) (l:ag) (op deep:Int) (b:Bool) (kids:List Int) (ns:List ab),l.length=m→l.length < n→0≤deep→deep+1+(l.length:Int)≤400→kids.length+l.length≤10000→ns.length≤60→hZ l b ns (b7 op deep (ba l) b kids ns):=by
 intro m
 induction m using Nat.strongRecOn with
 | ind m ih =>
  intro l op deep b kids ns hm hln hd0 hd hk hn
  subst hm
  rw[je]
  cases b with
  | true =>
   simp only[aj_,Z5,ad_,gK]
   exact fk hn (F3 (by omega))
  | false =>
   have tail : ∀(l2:ag) (b2:Bool) (ns2:List ab) (y:List Int),l2 <:+ l→ns <+: ns2→ns2.length≤60→y.length=kids.length+1→(sm ns=true→sm ns2=true) →
     hZ l false ns ((bn (⟨#[44]⟩:Z0) (ba l2) b2 ns2).bind fun z3=>(if(!z3.1.1)=true then(if z3.2.1.2.2.1=true then((aI (6,op,(0,0,(⟨#[]⟩:Z0),()),((0,0,()),false,false,()),((0,0,()),false,false,()),y,()) z3.2.1.1 true z3.2.1.2.1).bind fun z4=>(some ((z4.1.1,()),(z4.2.1,())))) else((bn (⟨#[41]⟩:Z0) z3.2.1.1 z3.2.1.2.2.1 z3.2.1.2.1).bind fun z5=>((aI (6,op,(0,0,(⟨#[]⟩:Z0),()),((0,0,()),false,false,()),((0,0,()),false,false,()),y,()) z5.2.1.1 (!z5.1.1) z5.2.1.2.1).bind fun z6=>(some ((z6.1.1,()),(z6.2.1,())))))) else(b7 op deep z3.2.1.1 z3.2.1.2.2.1 y z3.2.1.2.1))):=by
    intro l2 b2 ns2 y hs hp hn2 hy hsm
    have hl2:=aJ hs
    rw[show(⟨#[44]⟩:Z0)=ba [44] from rfl,cX (by omega)]
    simp only[Z1,il (c:=44) (.inr (.inr (.inr (.inl rfl)))),gK,Z4]
    by_cases hc:(bl l2).head? = some 44
    ·have hlt:=oh hc
     simp only[hc,bv_,aj_,Z5,ad_,al_]
     exact(ih _ (by omega) _ op deep b2 y ns2 rfl (by omega) hd0 (by omega) (by omega) hn2).mono (aj (iB l2) hs) (fun h=>by cases h) hp hsm
    ·simp only[hc,ca_,as_,al_,ad_]
     have hbl:=aJ (ay l2)
     cases b2 with
     | true =>
      simp only[al_]
      exact(fk hn2 (F3 (by omega))).mono (aj (ay l2) hs) (fun h=>by cases h) hp hsm
     | false =>
      simp only[Z5,ad_]
      rw[show(⟨#[41]⟩:Z0)=ba [41] from rfl,cX (by omega)]
      simp only[Z1,gK]
      refine(fk hn2 (F3 (by omega))).mono ?_ (fun h=>by cases h) hp hsm
      split
      ·exact aj (aj (gh _ _) (ay _)) (aj (ay l2) hs)
      ·exact aj (ay _) (aj (ay l2) hs)
   simp only[as_,al_]
   rw[D8 (by omega)]
   by_cases ha:zI (bl l)=true
   ·rw[Z3 ha]
    simp only[Z1,al_]
    obtain⟨i2,l2,b2,ns2,h2,k1,k2,k3,k4,k5⟩:=fk (x:=nA (cO ((bl l).takeWhile aP)).1 (cO ((jR (bl l)).takeWhile aP)).1) (l:=(jR (bl l)).dropWhile aP) (b:=(false || !(cO ((jR (bl l)).takeWhile aP)).2)) hn
    rw[h2]
    simp only[Z1]
    rw[bJ (by simp only[Z4]; omega)]
    exact tail _ _ _ _ (aj k1 (G9 l)) k3 k4 (by simp) k5
   ·rw[Z2 ha]
    simp only[Z1,Z5,ad_]
    rw[wr (by omega) (by omega)]
    obtain⟨i2,l2,b2,ns2,h2,k1,k2,k3,k4,k5⟩:=HB l hln (deep+1) 1 false ns (by omega) hd hn
    rw[h2]
    simp only[Z1]
    rw[bJ (by simp only[Z4]; omega)]
    exact tail _ _ _ _ k1 k3 k4 (by simp) k5
theorem VB {l:ag} {op deep:Int} {b:Bool} {ns:List ab} (hln:l.length < n) (hd0:0≤deep) (hd:deep+1+(l.length:Int)≤400) (hn:ns.length≤60):hZ l b ns (gB op deep (ba l) b ns):=by
 rw[po]
 cases b with
 | true =>
  rw[Z3 rfl,Ba]
  simp only[aj_,Z5,ad_,gK]
  exact fk hn (F3 (by simp))
 | false =>
  rw[Z2 (by decide),show(⟨#[40]⟩:Z0)=ba [40] from rfl,cX (by omega)]
  simp only[Z1]
  have hs:(if sg (bl l)=[40] then(bl l).drop ([40]:ag).length else bl l) <:+ l:=by
   split
   ·exact iB l
   ·exact ay l
  have:=aJ hs
  exact(IA HB _ _ op deep _ [] ns rfl (by omega) hd0 (by omega) (by simp only[bg_]; omega) hn).mono hs (fun h=>by cases h) (dh_ _)
theorem VC {deep:Int} {w r:ag} {b:Bool} {ns:List ab} (hln:l8.find? (fun k=>decide (dK k=w))≠none→r.length < n∧deep+1+(r.length:Int)≤400) (hd0:0≤deep) (hn:ns.length≤60):hZ r b ns (e8 deep w r b ns):=by
 unfold e8
 split
 ·rename_i hc
  rw[jC]
  exact fk hn (Pa (bf_ (eU (od hc.1).1) (by decide)))
 ·split
  ·exact fk hn
  ·cases hf:l8.find? (fun k=>decide (dK k=w)) with
   | some k =>
    obtain⟨h1,h2⟩:=hln (by rw[hf]; simp)
    exact VB HB h1 hd0 h2 hn
   | none=>exact xB hn
end
theorem Pb {w:ag} (h:l8.find? (fun k=>decide (dK k=w))≠none) : ∃ k,l8.find? (fun k=>decide (dK k=w))=some k∧dK k=w∧k∈l8∧w≠[]:=by
 cases hf:l8.find? (fun k=>decide (dK k=w)) with
 | none=>exact absurd hf h
 | some k =>
  have h1:=List.find?_some hf
  have h2:=List.mem_of_find?_eq_some hf
  have h3:dK k=w:=by simpa using h1
  refine⟨k,rfl,h3,h2,?_⟩
  have : ∀ k∈l8,dK k≠[]:=by decide
  rw[←h3]
  exact this k h2
theorem Pc {l:ag} (h:(bl l).takeWhile aP≠[]):((bl l).dropWhile aP).length < l.length:=by
 have h1:=aJ (ay l)
 have h2:=ae_ ac_ (List.takeWhile_append_dropWhile (p:=aP) (l:=bl l))
 rw[Z7] at h2
 have h3:=eb_.2 h
 omega
theorem Q7 {l:ag} {b:Bool} {ns:List ab} (hl:l.length≤900) (hn:ns.length≤60):hZ (34 :: l) b ns (j0 (ba (34 :: l)) b ns):=by
 rw[yV hl]
 cases hq:qt l with
 | none=>exact xB hn
 | some p =>
  obtain⟨h1,h2,_⟩:=Tj l p.1 p.2 hq
  show hZ _ b ns (bS _ _ b ns)
  rw[jC]
  refine(fk hn (Pa ?_)).mono (aj h1 ⟨[34],rfl⟩) id (dh_ _)
  show(ba ([]++p.1)).size≤_
  rw[az]
  simp only[ei_]
  omega
theorem IC (l:ag):(bl (35 :: l)).takeWhile aP=[]∧(bl (35 :: l)).dropWhile aP=35 :: l:=by
 have h1:bl (35 :: l)=35 :: l:=au_ (by decide)
 rw[h1]
 exact⟨em_ (by decide),au_ (by decide)⟩
theorem Ha {deep:Int} {l:ag} {b:Bool} {ns:List ab} (hl:l.length≤800):dS deep 1 (ba (35 :: l)) b ns=match pB.find? (gX l) with
  | some n=>bS (vE n) (ba (l.drop (dz n).length)) b ns
  | none=>some ((-1,()),((ba (35 :: l),ns,true,()),())):=by
 have h:=Iy (deep:=deep) (l:=l) (b:=b) (ns:=ns) (by omega) pB [] rfl
 have h:dS deep 1 (ba (35 :: l)) b ns=_:=h
 rw[h]
 cases pB.find? (gX l) with
 | some n=>rfl
 | none =>
  simp only
  rw[Zd (by rw[aa_]; omega),(IC l).1,(IC l).2]
  have e1 : ¬((bk []).2=true∧((bk []).1.1=1∨(bk []).1.1=3)):=by decide +kernel
  have e2 : ¬(cO []).2=true:=by decide +kernel
  have e3:l8.find? (fun k=>decide (dK k=[]))=none:=by decide +kernel
  unfold e8
  rw[Z2 e1,Z2 e2,e3]
theorem VD {l:ag} (HB : ∀ l':ag,l'.length < l.length → ∀(deep least:Int) (b:Bool) (ns:List ab),0≤deep→deep+(l'.length:Int)≤400→ns.length≤60→hZ l' b ns (bv least deep (ba l') b ns))
  {deep:Int} {b:Bool} {ns:List ab} (hd0:0≤deep) (hd:deep+(l.length:Int)≤400) (hn:ns.length≤60):hZ l b ns (fx deep (ba l) b ns):=by
 have hbl:=aJ (ay l)
 rw[qm (by omega)]
 by_cases c1:(bl l).head? = some 34
 ·rw[Z3 c1]
  obtain⟨t,ht⟩:=iA c1
  have htl:t.length+1=(bl l).length:=by rw[ht]; simp
  rw[ht]
  exact(Q7 (by omega) hn).mono (by rw[←ht]; exact ay l) id (dh_ _)
 ·rw[Z2 c1]
  by_cases c2:(bl l).head? = some 35
  ·rw[Z3 c2]
   obtain⟨t,ht⟩:=iA c2
   have htl:t.length+1=(bl l).length:=by rw[ht]; simp
   have hts:t <:+ l:=aj ⟨[35],by rw[ht]; rfl⟩ (ay l)
   rw[ht,Ha (by omega)]
   cases pB.find? (gX t) with
   | some n =>
    simp only
    rw[jC]
    exact(fk hn (Pa (by show eS.size≤_; decide))).mono (aj (gh _ _) hts) id (dh_ _)
   | none=>exact(xB hn).mono (by rw[←ht]; exact ay l) id (dh_ _)
  ·rw[Z2 c2]
   by_cases c3:(bl l).head? = some 40
   ·rw[Z3 c3]
    have hlt:=oh c3
    rw[wr (by omega) (by omega)]
    obtain⟨i2,l2,b2,ns2,h2,k1,k2,k3,k4,k5⟩:=HB _ hlt (deep+1) 1 b ns (by omega) (by omega) hn
    rw[h2]
    simp only[Z1]
    have hl2:=aJ k1
    have hs2:l2 <:+ l:=aj k1 (iB l)
    cases b2 with
    | true =>
     simp only[al_]
     exact⟨i2,l2,true,ns2,rfl,hs2,fun _=>rfl,k3,k4,k5⟩
    | false =>
     simp only[Z5,ad_]
     rw[show(⟨#[41]⟩:Z0)=ba [41] from rfl,cX (by omega)]
     simp only[Z1]
     refine⟨i2,_,_,ns2,rfl,?_,(fun h=>by have:=k2 h; cases this),k3,k4,k5⟩
     split
     ·exact aj (aj (gh _ _) (ay _)) hs2
     ·exact aj (ay _) hs2
   ·rw[Z2 c3]
    refine(VC HB (fun h => ?_) hd0 hn).mono (Mh l) id (dh_ _)
    obtain⟨k,_,_,_,hw⟩:=Pb h
    have:=Pc hw
    omega
theorem To : ∀(m:Nat) (l:ag),l.length=m→(∀ l':ag,l'.length < l.length → ∀(deep least:Int) (b:Bool) (ns:List ab),0≤deep→deep+(l'.length:Int)≤400→ns.length≤60→hZ l' b ns (bv least deep (ba l') b ns)) →
  ∀(deep:Int) (b:Bool) (ns:List ab),0≤deep→deep+(l.length:Int)≤400→ns.length≤60→hZ l b ns (eQ deep (ba l) b ns):=by
 intro m
 induction m using Nat.strongRecOn with
 | ind m ih =>
  intro l hm HB deep b ns hd0 hd hn
  subst hm
  rw[kH,aL (by omega)]
  cases b with
  | true =>
   simp only[al_]
   exact xB hn
  | false =>
   simp only[Z5,ad_,gK]
   rw[show(⟨#[45]⟩:Z0)=ba [45] from rfl,cX (by omega)]
   simp only[Z1,il (c:=45) (.inl rfl),Z4]
   have hbl:=aJ (ay l)
   by_cases hc:(bl l).head? = some 45
   ·have hlt:=oh hc
    simp only[hc,bv_,al_]
    rw[wr (by omega) (by omega)]
    obtain⟨i2,l2,b2,ns2,h2,k1,k2,k3,k4,k5⟩:=ih _ hlt _ rfl (fun l' h'=>HB l' (by omega)) (deep+1) false ns (by omega) (by omega) hn
    rw[h2]
    simp only[Z1]
    exact(fk k4).mono (aj k1 (iB l)) (fun h=>by cases h) k3 k5
   ·simp only[hc,ca_,Z5,ad_]
    exact(VD (l:=bl l) (fun l' h'=>HB l' (by omega)) hd0 (by omega) hn).mono (ay l) id (dh_ _)
theorem xC {least deep left:Int} {op:Int} {l:ag} {ns:List ab} (ho:0≤op) (ho2:op≤11) (hl:l.length≤900) (hs:op≠0→sg (bl l)=du op):cF least deep left op 12 (ba l) false ns =
  if op=0∨cz op < least then some ((left,()),((ba l,ns,false,()),()))
  else((bv (cz op+1) deep (ba ((bl l).drop (du op).length)) false ns).bind fun z7=>((aI (5,op,(0,0,(⟨#[]⟩:Z0),()),((0,0,()),false,false,()),((0,0,()),false,false,()),([left,z7.1.1]:(List Int)),()) z7.2.1.1 z7.2.1.2.2.1 z7.2.1.2.1).bind fun z8=>(cE least deep z8.1.1 z8.2.1.1 z8.2.1.2.2.1 z8.2.1.2.1))):=by
 rw[pq,aL (by decide)]
 by_cases h0:op=0
 ·rw[Z3 (by rw[h0]; rfl),Z3 (.inl h0)]
 ·have h0' : ¬(op == 0)=true:=by simpa using h0
  have hlv:1≤cz op∧cz op≤4:=by
   unfold cz
   repeat' split
   all_goals omega
  rw[Z2 h0',Iw (by omega) ho2]
  simp only[Z1]
  by_cases h1:cz op < least
  ·rw[aQ h1,Z3 (.inr h1)]
  ·rw[aL h1,Z2 (by omega),yR ho ho2]
   simp only[Z1]
   rw[cX (by omega),hs h0]
   simp only[Z1,al_]
   rw[wr (by omega) (by omega)]
theorem Mi {l:ag} (h:d8 (bl l)≠0):((bl l).drop (du (d8 (bl l))).length).length < l.length:=by
 have h1:=aJ (ay l)
 have h2:=qk h
 have h3:=Cc (L7 (bl l))
 have h4:1≤(du (d8 (bl l))).length:=by
  have:=l7 (bl l)
  have h5 : ∀ k:Fin 12,k.val≠0→1≤(du (k.val:Int)).length:=by decide
  have:=h5 ⟨(d8 (bl l)).toNat,by omega⟩ (by simp only; omega)
  simp only[Int.toNat_of_nonneg (l7 (bl l)).1] at this
  exact this
 rw[h2] at h3
 rw[List.length_drop]
 omega
theorem yW : ∀(m:Nat) (l:ag),l.length=m→(∀ l':ag,l'.length < l.length → ∀(deep least:Int) (b:Bool) (ns:List ab),0≤deep→deep+(l'.length:Int)≤400→ns.length≤60→hZ l' b ns (bv least deep (ba l') b ns)) →
  ∀(least deep left:Int) (b:Bool) (ns:List ab),0≤deep→deep+(l.length:Int)≤400→ns.length≤60→hZ l b ns (cE least deep left (ba l) b ns):=by
 intro m
 induction m using Nat.strongRecOn with
 | ind m ih =>
  intro l hm HB least deep left b ns hd0 hd hn
  subst hm
  rw[fz]
  cases b with
  | true=>exact xB hn
  | false =>
   simp only[as_,al_]
   have hbl:=aJ (ay l)
   obtain⟨o1,o2⟩:=l7 (bl l)
   rw[ug (by omega),xC o1 o2 (by omega) (fun h=>by rw[dD]; exact qk h),dD]
   split
   ·exact⟨left,bl l,false,ns,rfl,ay l,fun h=>h,dh_ _,hn,id⟩
   ·rename_i hop
    have hop':d8 (bl l)≠0:=fun e=>hop (.inl e)
    have hlt:=Mi hop'
    obtain⟨i2,l2,b2,ns2,h2,k1,k2,k3,k4,k5⟩:=HB _ hlt deep (cz (d8 (bl l))+1) false ns hd0 (by omega) hn
    rw[h2]
    simp only[Z1]
    obtain⟨i3,l3,b3,ns3,h3,j1,j2,j3,j4,j5⟩:=fk (x:=(5,d8 (bl l),(0,0,(⟨#[]⟩:Z0),()),((0,0,()),false,false,()),((0,0,()),false,false,()),([left,i2]:(List Int)),())) (l:=l2) (b:=b2) k4
    rw[h3]
    simp only[Z1]
    have hs2:=aJ k1
    have hs3:=aJ j1
    exact(ih _ (by omega) l3 rfl (fun l' h'=>HB l' (by omega)) least deep i3 b3 ns3 hd0 (by omega) j4).mono (aj j1 (aj k1 (aj (gh _ _) (ay l)))) (fun h=>by cases h) (List.IsPrefix.trans k3 j3) (fun h=>j5 (k5 h))
theorem Q8 : ∀(m:Nat) (l:ag),l.length=m → ∀(deep least:Int) (b:Bool) (ns:List ab),0≤deep→deep+(l.length:Int)≤400→ns.length≤60→hZ l b ns (bv least deep (ba l) b ns):=by
 intro m
 induction m using Nat.strongRecOn with
 | ind m ih =>
  intro l hm deep least b ns hd0 hd hn
  subst hm
  have HB : ∀ l':ag,l'.length < l.length → ∀(deep least:Int) (b:Bool) (ns:List ab),0≤deep→deep+(l'.length:Int)≤400→ns.length≤60→hZ l' b ns (bv least deep (ba l') b ns) :=
   fun l' h' deep least b ns d0 d1 hn=>ih _ h' l' rfl deep least b ns d0 d1 hn
  rw[m7]
  obtain⟨i2,l2,b2,ns2,h2,k1,k2,k3,k4,k5⟩:=To _ l rfl HB deep b ns hd0 hd hn
  rw[h2]
  simp only[Z1]
  have hs2:=aJ k1
  exact(yW _ l2 rfl (fun l' h'=>HB l' (by omega)) least deep i2 b2 ns2 hd0 (by omega) k4).mono k1 k2 k3 k5
abbrev RS:=Option ((Int×Unit)×(ld×Unit))
def dL (ns:List ab):Bool:=ns.all bR
theorem Tp {ns ns':List ab} (h:ns <+: ns') (k:dL ns=false):dL ns'=false:=by
 obtain⟨r,rfl⟩:=h
 unfold dL at k ⊢
 rw[cf_,k]
 rfl
def Dm (b:Bool) (ns:List ab):Prop:=(b=true∨dL ns=false)∧sm ns=true
theorem IE {x:ab} (h:bR x=true):vm x=true:=by
 have:x.2.2.1.2.2.1.size≤100000∧x.2.2.2.2.2.1.length≤100000:=by
  unfold bR kl at h
  split at h
  ·simp only[Z8,Z9] at h
   have:=eU h.1.1.2
   omega
  ·split at h
   ·simp only[Z8,Z9] at h
    rw[h.1.1.1.2]
    exact⟨by decide,by omega⟩
   ·split at h
    ·simp only[Z8,Z9] at h
     rw[h.1.1.2]
     exact⟨by decide,by omega⟩
    ·split at h
     ·simp only[Z8,Z9] at h
      rw[h.1.1.1.2]
      exact⟨by decide,by omega⟩
     ·split at h
      ·simp only[Z8,Z9] at h
       rw[h.1.1.1.2]
       exact⟨by decide,by omega⟩
      ·split at h
       ·simp only[Z8,Z9] at h
        rw[h.1.1.2]
        refine⟨by decide,?_⟩
        have h2:=h.1.1.1
        unfold i7 at h2
        split at h2
        ·simp only[cx_,Z9] at h2
         omega
        ·split at h2
         ·have:=aH.1 h2
          omega
         ·split at h2
          ·simp only[Z9] at h2
           omega
          ·cases h2
       ·cases h
 unfold vm
 rw[ba_ this.1,ba_ this.2]
 rfl
theorem ui {ns:List ab} (h:dL ns=true):sm ns=true:=by
 unfold dL at h
 unfold sm
 rw[cc_] at h ⊢
 exact fun x hx=>IE (h x hx)
theorem F4 {ns:List ab} (h:dL ns=true):Dm true ns:=⟨.inl rfl,ui h⟩
theorem hZ.dm {l:ag} {b:Bool} {ns:List ab} {F:RI} (h:hZ l b ns F) (hd:Dm b ns) : ∃(i:Int) (l':ag) (b':Bool) (ns':List ab),F=some ((i,()),((ba l',ns',b',()),()))∧l' <:+ l∧Dm b' ns'∧ns'.length≤60:=by
 obtain⟨i,l',b',ns',e,k1,k2,k3,k4,k5⟩:=h
 exact⟨i,l',b',ns',e,k1,⟨hd.1.elim (fun h => .inl (k2 h)) (fun h => .inr (Tp k3 h)),k5 hd.2⟩,k4⟩
def nv (s m:ag) (L:Int) (F:RI) (G:RS):Prop :=
 (∃(i:Int) (l1 l2:ag) (ns:List ab),F=some ((i,()),((ba l1,ns,false,()),()))∧G=some ((i,()),((ba s,bU s l2,false,ns,()),()))∧bl l1=bl l2∧l1 <:+ m∧l2 <:+ m∧dL ns=true∧ns.length≤60∧(d8 (bl l1)=0∨cz (d8 (bl l1)) < L))
 ∨ (∃(i:Int) (l1:ag) (b1:Bool) (ns1:List ab) (j:Int) (l2:ag) (ns2:List ab),F=some ((i,()),((ba l1,ns1,b1,()),()))∧Dm b1 ns1∧l1 <:+ m∧ns1.length≤60∧G=some ((j,()),((ba s,bU s l2,true,ns2,()),()))∧l2 <:+ s∧ns2.length≤61+m.length)
theorem Q9 (k:Int):cz k < 5:=by
 unfold cz
 repeat' split
 all_goals omega
theorem nv.mono {s m m':ag} {L:Int} {F:RI} {G:RS} (h:nv s m L F G) (hm:m <:+ m'):nv s m' L F G:=by
 have:=aJ hm
 rcases h with⟨i,l1,l2,ns,e1,e2,h1,h2,h3,h4,h5,h6⟩ | ⟨i,l1,b1,ns1,j,l2,ns2,e1,h1,h2,h3,e2,h4,h5⟩
 ·exact .inl ⟨i,l1,l2,ns,e1,e2,h1,aj h2 hm,aj h3 hm,h4,h5,h6⟩
 ·exact .inr ⟨i,l1,b1,ns1,j,l2,ns2,e1,h1,aj h2 hm,h3,e2,h4,by omega⟩
theorem Pd {ns:List ab} {x:ab} (h:sm ns=true) (hx:vm x=true):sm (ns++[x])=true:=by
 unfold sm at h ⊢
 rw[cf_,h]
 simp[hx]
theorem Mj {x:ab} (h:vm x=true):x.2.2.1.2.2.1.size≤9223372036854775807:=by
 unfold vm at h
 rw[Z8,Z9] at h
 exact bf_ h.1 (by decide)
theorem qn {s m l1 l2:ag} {x:ab} {ns:List ab} (hsx:vm x=true) (h1:bl l1=bl l2) (k1:l1 <:+ m) (k2:l2 <:+ m) (hms:m <:+ s) (ho:dL ns=true) (hn:ns.length≤60) :
  nv s m 5 (aI x (ba l1) false ns) (cm x (ba s) (bU s l2) false ns):=by
 have hx:=Mj hsx
 obtain⟨i,e,hi⟩:=xA (x:=x) (l:=l1) (b:=false) hn
 rw[e,G7 (by omega) hx]
 by_cases hlt:ns.length < 60
 ·have hi:=hi rfl hlt
  subst hi
  have d60:decide (60≤ns.length)=false:=bm_ (by omega)
  rw[d60,Z3 ⟨rfl,hlt⟩]
  simp only[fo_]
  cases hk:bR x with
  | true =>
   refine .inl ⟨_,l1,l2,ns++[x],rfl,rfl,h1,k1,k2,?_,?_,.inr (Q9 _)⟩
   ·unfold dL at ho ⊢
    rw[cf_,ho]
    simp[hk]
   ·rw[Z7,Z4]; omega
  | false =>
   refine .inr ⟨_,l1,false,ns++[x],(ns.length:Int),l2,ns++[x],rfl,⟨.inr ?_,Pd (ui ho) hsx⟩,k1,?_,rfl,aj k2 hms,?_⟩
   ·unfold dL
    rw[cf_]
    simp[hk]
   ·rw[Z7,Z4]; omega
   ·rw[Z7,Z4]; omega
 ·have d60:decide (60≤ns.length)=true:=ba_ (by omega)
  rw[d60,Z2 (by omega)]
  refine .inr ⟨i,l1,true,ns,(ns.length:Int),l2,ns++[x],rfl,F4 ho,k1,hn,?_,aj k2 hms,?_⟩
  ·simp
  ·rw[Z7,Z4]; omega
theorem Mk {s:ag} {a:Int} {x:ab} {ns:List ab} (hn:ns.length≤1000) (hx:x.2.2.1.2.2.1.size≤9223372036854775807):cm x (ba s) a true ns=some (((ns.length:Int),()),((ba s,a,true,ns++[x],()),())):=by
 rw[G7 hn hx]
 rfl
theorem Ra {op:Int} {s:Z0} {a:Int} {b:Bool} {ns:List ab} {kids:List Int}:rH op s a b ns kids=dl op s a b kids ns:=by
 rw[DV,m9]
theorem IG {op:Int} {s:Z0} {a:Int} {ns:List ab} {kids:List Int}:dl op s a true kids ns=some ((0,()),((s,a,true,ns,()),())):=by
 rw[m9]
 rfl
abbrev nF (op:Int) (kids:List Int):ab:=(6,op,(0,0,(⟨#[]⟩:Z0),()),((0,0,()),false,false,()),((0,0,()),false,false,()),kids,())
noncomputable def yX (op deep:Int) (y:List Int) (r:Z0) (b:Bool) (ns:List ab):RI :=
 (bn (⟨#[44]⟩:Z0) r b ns).bind fun z3=>(if(!z3.1.1)=true then(if z3.2.1.2.2.1=true then((aI (nF op y) z3.2.1.1 true z3.2.1.2.1).bind fun z4=>(some ((z4.1.1,()),(z4.2.1,())))) else((bn (⟨#[41]⟩:Z0) z3.2.1.1 z3.2.1.2.2.1 z3.2.1.2.1).bind fun z5=>((aI (nF op y) z5.2.1.1 (!z5.1.1) z5.2.1.2.1).bind fun z6=>(some ((z6.1.1,()),(z6.2.1,())))))) else(b7 op deep z3.2.1.1 z3.2.1.2.2.1 y z3.2.1.2.1))
theorem NX {op deep:Int} {l:ag} {kids:List Int} {ns:List ab} (hl:l.length≤900):b7 op deep (ba l) false kids ns =
  if zI (bl l)=true then(aI (nA (cO ((bl l).takeWhile aP)).1 (cO ((jR (bl l)).takeWhile aP)).1) (ba ((jR (bl l)).dropWhile aP)) (!(cO ((jR (bl l)).takeWhile aP)).2) ns).bind fun z2=>(app kids ([z2.1.1]:(List Int)) 8 fun y1=>yX op deep y1 z2.2.1.1 z2.2.1.2.2.1 z2.2.1.2.1)
  else(bv 1 (IntKind.i64.wrap (deep+1)) (ba l) false ns).bind fun z7=>(app kids ([z7.1.1]:(List Int)) 8 fun y2=>yX op deep y2 z7.2.1.1 z7.2.1.2.2.1 z7.2.1.2.1):=by
 rw[je]
 simp only[as_,al_]
 rw[D8 hl]
 by_cases ha:zI (bl l)=true
 ·rw[Z3 ha,Z3 ha]
  simp only[Z1,al_,fo_]
  rfl
 ·rw[Z2 ha,Z2 ha]
  simp only[Z1,Z5,ad_]
  rfl
theorem Cf : ∀(l:ag),∀(deep least:Int) (b:Bool) (ns:List ab),0≤deep→deep+(l.length:Int)≤400→ns.length≤60→hZ l b ns (bv least deep (ba l) b ns):=fun l=>Q8 _ l rfl
theorem yY {op deep:Int} {y:List Int} {l:ag} {b:Bool} {ns:List ab} (hd0:0≤deep) (hd:deep+1+(l.length:Int)≤400) (hy:y.length+l.length≤9000) (hn:ns.length≤60):hZ l b ns (yX op deep y (ba l) b ns):=by
 have hbl:=aJ (ay l)
 unfold yX
 rw[show(⟨#[44]⟩:Z0)=ba [44] from rfl,cX (by omega)]
 simp only[Z1,gK]
 by_cases hc:sg (bl l)=[44]
 ·have hc':(bl l).head? = some 44:=by rw[←il (c:=44) (.inr (.inr (.inr (.inl rfl))))]; exact hc
  have hlt:=oh hc'
  simp only[hc,bv_,aj_,Z5,ad_,al_,Z4]
  exact(IA (n:=l.length+1) (fun l' _ deep least b ns d0 d1 hn=>Cf l' deep least b ns d0 d1 hn) _ _ op deep b y ns rfl (by omega) hd0 (by omega) (by omega) hn).mono (iB l) id (dh_ _)
 ·simp only[hc,ca_,as_,al_,ad_]
  cases b with
  | true =>
   simp only[al_]
   exact(fk hn (F3 (by omega))).mono (ay l) (fun _=>rfl) (dh_ _)
  | false =>
   simp only[Z5,ad_]
   rw[show(⟨#[41]⟩:Z0)=ba [41] from rfl,cX (by omega)]
   simp only[Z1,gK]
   refine(fk hn (F3 (by omega))).mono ?_ (fun h=>by cases h) (dh_ _)
   split
   ·exact aj (aj (gh _ _) (ay _)) (ay l)
   ·exact aj (ay _) (ay l)
noncomputable def Cg (op:Int) (y:List Int) (s:Z0) (a:Int) (b:Bool) (ns:List ab):RS :=
 (dX (⟨#[41]⟩:Z0) s a b ns).bind fun z2=>(if z2.1.1=true then((cm (nF op y) z2.2.1.1 z2.2.1.2.1 z2.2.1.2.2.1 z2.2.1.2.2.2.1).bind fun z3=>(some ((z3.1.1,()),(z3.2.1,())))) else((dX (⟨#[44]⟩:Z0) z2.2.1.1 z2.2.1.2.1 z2.2.1.2.2.1 z2.2.1.2.2.2.1).bind fun z4=>(if(!z4.1.1)=true then(dl op z4.2.1.1 z4.2.1.2.1 true y z4.2.1.2.2.2.1) else(dl op z4.2.1.1 z4.2.1.2.1 z4.2.1.2.2.1 y z4.2.1.2.2.2.1))))
theorem vn {op:Int} {y:List Int} {s l:ag} {ns:List ab} (hs:s.length≤900) (h:l <:+ s) : ∃ l',l' <:+ s∧Cg op y (ba s) (bU s l) true ns=some ((0,()),((ba s,bU s l',true,ns,()),())):=by
 unfold Cg
 rw[show(⟨#[41]⟩:Z0)=ba [41] from rfl,i8 (by omega) (by decide) h]
 simp only[Z1,aj_,Bool.false_and,Z5,ad_]
 rw[show(⟨#[44]⟩:Z0)=ba [44] from rfl,i8 (by omega) (by decide) (aj (ay l) h)]
 simp only[Z1,aj_,Bool.false_and,Z5,ad_,as_,al_]
 exact⟨bl (bl l),aj (ay _) (aj (ay l) h),IG⟩
theorem NY {op:Int} {s l:ag} {kids:List Int} {ns:List ab}:dl op (ba s) (bU s l) false kids ns=(ra (ba s) (bU s l) false ns).bind fun z1=>(app kids ([z1.1.1]:(List Int)) 8 fun y1=>Cg op y1 z1.2.1.1 z1.2.1.2.1 z1.2.1.2.2.1 z1.2.1.2.2.2.1):=by
 rw[m9]
 rfl
theorem Xe {s l:ag} {ns:List ab} (hs:s.length≤900) (h:l <:+ s):ra (ba s) (bU s l) false ns =
  if zI (bl l)=true then(if(cO ((jR (bl l)).takeWhile aP)).2=true then cm (nA (cO ((bl l).takeWhile aP)).1 (cO ((jR (bl l)).takeWhile aP)).1) (ba s) (bU s ((jR (bl l)).dropWhile aP)) false ns
   else some ((0,()),((ba s,bU s ((jR (bl l)).dropWhile aP),true,ns,()),())))
  else ff 1 (ba s) (bU s (bl l)) false ns:=by
 have hm:=aj (ay l) h
 have hr:=aj (Mh l) h
 have hsl:=aJ h
 have h1:=aJ (ay l)
 have h2:=l9 aP (bl l)
 have h3:=aJ (G9 l)
 rw[Lq,L9 (by omega) h]
 simp only[Z1]
 rw[D6 (by omega) hm]
 simp only[Z1]
 rw[rM (by omega)]
 simp only[Z1]
 unfold zI
 cases hp:(cO ((bl l).takeWhile aP)).2 with
 | false=>simp only[Bool.false_and,Z5,ad_,hY]
 | true =>
  simp only[al_,bj_]
  rw[show(⟨#[58]⟩:Z0)=ba [58] from rfl,i8 (by omega) (by decide) hr]
  simp only[Z1,as_,bj_,D0]
  by_cases hc:(bl ((bl l).dropWhile aP)).head? = some 58
  ·simp only[hc,bv_,al_,Z4]
   have hq:(bl ((bl l).dropWhile aP)).drop 1 <:+ s:=aj (iB _) hr
   rw[L9 (by omega) hq]
   simp only[Z1]
   have hq2:jR (bl l) <:+ s:=aj (ay _) hq
   rw[show bl ((bl ((bl l).dropWhile aP)).drop 1)=jR (bl l) from rfl,D6 (by omega) hq2]
   simp only[Z1]
   have h4:=l9 aP (jR (bl l))
   have h5:=aJ hq2
   rw[rM (by omega)]
   simp only[Z1,hY]
   cases (cO ((jR (bl l)).takeWhile aP)).2 <;> simp
  ·simp only[hc,ca_,Z5,ad_,hY]
theorem qo {s m m':ag} {L L':Int} {F:RI} {G:RS} {K:(Int×Unit)×(p6×Unit)→RI} {K':(Int×Unit)×(ld×Unit)→RS} (h:nv s m L F G)
  (hg : ∀(i:Int) (l1 l2:ag) (ns:List ab),bl l1=bl l2→l1 <:+ m→l2 <:+ m→dL ns=true→ns.length≤60→(d8 (bl l1)=0∨cz (d8 (bl l1)) < L)→nv s m' L' (K ((i,()),((ba l1,ns,false,()),()))) (K' ((i,()),((ba s,bU s l2,false,ns,()),()))))
  (hd : ∀(i:Int) (l1:ag) (b1:Bool) (ns1:List ab) (j:Int) (l2:ag) (ns2:List ab),Dm b1 ns1→l1 <:+ m→ns1.length≤60→l2 <:+ s→ns2.length≤61+m.length→nv s m' L' (K ((i,()),((ba l1,ns1,b1,()),()))) (K' ((j,()),((ba s,bU s l2,true,ns2,()),())))) :
  nv s m' L' (F.bind K) (G.bind K'):=by
 rcases h with⟨i,l1,l2,ns,rfl,rfl,h1,h2,h3,h4,h5,h6⟩ | ⟨i,l1,b1,ns1,j,l2,ns2,rfl,h1,h2,h3,rfl,h4,h5⟩
 ·exact hg i l1 l2 ns h1 h2 h3 h4 h5 h6
 ·exact hd i l1 b1 ns1 j l2 ns2 h1 h2 h3 h4 h5
theorem jN {s m:ag} {L:Int} {F:RI} {G:RS} {l1:ag} {b1:Bool} {ns1:List ab} {j:Int} {l2:ag} {ns2:List ab} (hF:hZ l1 b1 ns1 F) (hd:Dm b1 ns1) (h1:l1 <:+ m) (hG:G=some ((j,()),((ba s,bU s l2,true,ns2,()),()))) (h2:l2 <:+ s) (h3:ns2.length≤61+m.length):nv s m L F G:=by
 obtain⟨i,l',b',ns',e,k1,k2,k3⟩:=hF.dm hd
 exact .inr ⟨i,l',b',ns',j,l2,ns2,e,k2,aj k1 h1,k3,hG,h2,h3⟩
def Tq (s:ag) (n:Nat):Prop := ∀(l l0:ag),bl l=bl l0→l <:+ s→l0 <:+ s→(bl l).length < n → ∀(L deep:Int) (ns:List ab),1≤L→L≤5→0≤deep→deep+((bl l).length:Int)≤200→dL ns=true→ns.length≤60 →
 nv s (bl l) L (bv L deep (ba l) false ns) (ff L (ba s) (bU s l0) false ns)
theorem kL {c:UInt8} {l:ag}:([c]:ag).isPrefixOf l=decide (l.head? = some c):=D0 c l
theorem VE {s:ag} (hs:s.length≤200) {n:Nat} (HB:Tq s n) : ∀(k:Nat) (l1 l2:ag),(bl l1).length=k→bl l1=bl l2→l1 <:+ s→l2 <:+ s→(bl l1).length < n → ∀(op deep:Int) (kids:List Int) (ns:List ab),0≤deep→deep+1+((bl l1).length:Int)≤200→kids.length+(bl l1).length≤1000→dL ns=true→ns.length≤60 →
  nv s (bl l1) 5 (b7 op deep (ba l1) false kids ns) (dl op (ba s) (bU s l2) false kids ns):=by
 intro k
 induction k using Nat.strongRecOn with
 | ind k ih =>
  intro l1 l2 hk hb hs1 hs2 hn op deep kids ns hd0 hd hkl ho hns
  subst hk
  have hl1:=aJ hs1
  have hm1:=aJ (ay l1)
  have hms:bl l1 <:+ s:=aj (ay l1) hs1
  rw[NX (by omega),NY,Xe (by omega) hs2,←hb]
  have doom : ∀(y:List Int) (x1:ag) (b1:Bool) (ns1:List ab) (x2:ag) (ns2:List ab),y.length=kids.length+1→Dm b1 ns1→x1 <:+ bl l1→ns1.length≤60→x2 <:+ s→ns2.length≤61+(bl l1).length →
    nv s (bl l1) 5 (yX op deep y (ba x1) b1 ns1) (Cg op y (ba s) (bU s x2) true ns2):=by
   intro y x1 b1 ns1 x2 ns2 hy hdm hx1 hn1 hx2 hn2
   have hlx:=aJ hx1
   obtain⟨l',h1,h2⟩:=vn (op:=op) (y:=y) (ns:=ns2) (by omega) hx2
   exact jN (yY hd0 (by omega) (by omega) hn1) hdm hx1 h2 h1 hn2
  have good : ∀(y:List Int) (x1 x2:ag) (ns:List ab),y.length=kids.length+1→bl x1=bl x2→x1 <:+ bl l1→x2 <:+ bl l1→dL ns=true→ns.length≤60 →
    nv s (bl l1) 5 (yX op deep y (ba x1) false ns) (Cg op y (ba s) (bU s x2) false ns):=by
   intro y x1 x2 ns hy hbx hx1 hx2 ho hn
   have hlx:=aJ hx1
   have hblx:=aJ (ay x1)
   have hx2s:=aj hx2 hms
   have c41 : ¬(41:UInt8)=44:=by decide
   have c44 : ¬(44:UInt8)=41:=by decide
   unfold yX Cg
   rw[show(⟨#[44]⟩:Z0)=ba [44] from rfl,show(⟨#[41]⟩:Z0)=ba [41] from rfl,cX (by omega),i8 (by omega) (by decide) hx2s]
   simp only[Z1,il (c:=44) (.inr (.inr (.inr (.inl rfl)))),gK,hY,Z4,as_,bj_,kL,←hbx]
   by_cases h44:(bl x1).head? = some 44
   ·have h41 : ¬(bl x1).head? = some 41:=by rw[h44]; simp
    simp only[h44,h41,bv_,ca_,aj_,Z5,ad_,al_,ap_,c44]
    rw[i8 (by omega) (by decide) (aj (ay x1) (aj hx1 hms))]
    simp only[Z1,as_,bj_,kL,dD,h44,bv_,al_,aj_,Z5,ad_,Z4]
    have hlt:=oh h44
    have hb2:=aJ (ay ((bl x1).drop 1))
    have hsx:(bl x1).drop 1 <:+ bl l1:=aj (iB x1) hx1
    exact(ih _ (by omega) _ _ rfl rfl (aj hsx hms) (aj hsx hms) (by omega) op deep y ns hd0 (by omega) (by omega) ho hn).mono (aj (ay _) hsx)
   ·simp only[h44,ca_,as_,al_,ad_,Z5]
    rw[cX (by omega)]
    simp only[Z1,il (c:=41) (.inr (.inr (.inl rfl))),dD,Z4]
    by_cases h41:(bl x1).head? = some 41
    ·simp only[h41,bv_,al_,aj_]
     have hsx:(bl x1).drop 1 <:+ bl l1:=aj (iB x1) hx1
     exact qn (F3 (by omega)) rfl hsx hsx hms ho hn
    ·simp only[h41,ca_,ad_,as_,Z5]
     rw[i8 (by omega) (by decide) (aj (ay x1) (aj hx1 hms))]
     simp only[Z1,as_,bj_,kL,dD,h44,ca_,al_,Z5,ad_]
     have hsx:bl x1 <:+ bl l1:=aj (ay x1) hx1
     exact jN (fk hn (F3 (by omega))) (F4 ho) hsx IG (aj hsx hms) (by omega)
  by_cases ha:zI (bl l1)=true
  ·rw[Z3 ha,Z3 ha]
   have hX:(jR (bl l1)).dropWhile aP <:+ bl l1:=by
    have:=G9 (bl l1)
    rw[dD] at this
    exact this
   cases h2:(cO ((jR (bl l1)).takeWhile aP)).2 with
   | true =>
    simp only[aj_,al_]
    refine qo (qn (m:=bl l1) rfl rfl hX hX hms ho hns) ?_ ?_
    ·intro i x1 x2 ns' e1 e2 e3 e4 e5 _
     simp only
     rw[bJ (by simp only[Z4]; omega),bJ (by simp only[Z4]; omega)]
     exact good _ _ _ _ (by simp) e1 e2 e3 e4 e5
    ·intro i x1 b1 ns1 j x2 ns2 e1 e2 e3 e4 e5
     simp only
     rw[bJ (by simp only[Z4]; omega),bJ (by simp only[Z4]; omega)]
     have:kids++[i]=kids++[i]:=rfl
     by_cases hij:i=j
     ·subst hij
      exact doom _ _ _ _ _ _ (by simp) e1 e2 e3 e4 e5
     ·obtain⟨l',h1,h2⟩:=vn (op:=op) (y:=kids++[j]) (ns:=ns2) (by omega) e4
      have hlx:=aJ e2
      exact jN (yY hd0 (by omega) (by simp only[Z7,Z4]; omega) e3) e1 e2 h2 h1 e5
   | false =>
    simp only[as_,Z5,ad_]
    obtain⟨i,h3,_⟩:=xA (x:=nA (cO ((bl l1).takeWhile aP)).1 (cO ((jR (bl l1)).takeWhile aP)).1) (l:=(jR (bl l1)).dropWhile aP) (b:=true) hns
    rw[h3]
    simp only[Z1,Bool.true_eq_false,false_and,ad_,Bool.true_or]
    rw[bJ (by simp only[Z4]; omega),bJ (by simp only[Z4]; omega)]
    obtain⟨l',h1,h2⟩:=vn (op:=op) (y:=kids++[0]) (ns:=ns) (by omega) (aj hX hms)
    have hlx:=aJ hX
    exact jN (yY hd0 (by omega) (by simp only[Z7,Z4]; omega) hns) (F4 ho) hX h2 h1 (by omega)
  ·rw[Z2 ha,Z2 ha,wr (by omega) (by omega)]
   refine qo (HB l1 (bl l1) (dD l1).symm hs1 hms hn 1 (deep+1) ns (by decide) (by decide) (by omega) (by omega) ho hns) ?_ ?_
   ·intro i x1 x2 ns' e1 e2 e3 e4 e5 _
    simp only
    rw[bJ (by simp only[Z4]; omega),bJ (by simp only[Z4]; omega)]
    exact good _ _ _ _ (by simp) e1 e2 e3 e4 e5
   ·intro i x1 b1 ns1 j x2 ns2 e1 e2 e3 e4 e5
    simp only
    rw[bJ (by simp only[Z4]; omega),bJ (by simp only[Z4]; omega)]
    obtain⟨l',h1,h2⟩:=vn (op:=op) (y:=kids++[j]) (ns:=ns2) (by omega) e4
    have hlx:=aJ e2
    exact jN (yY hd0 (by omega) (by simp only[Z7,Z4]; omega) e3) e1 e2 h2 h1 e5
theorem II {p:UInt8→Bool} {c:UInt8} : ∀ {l:ag},c∈l.takeWhile p→p c=true
 | [],h=>by simp at h
 | x :: l,h=>by
  cases hx:p x with
  | true =>
   rw[List.takeWhile_cons_of_pos hx] at h
   rcases bd_.1 h with rfl | h
   ·exact hx
   ·exact II h
  | false =>
   rw[em_ (by rw[hx]; decide)] at h
   cases h
theorem VF {w:ag} (hw : ∀ c∈w,aP c=true) (h:(bk w).2=true):(w≠[])↔((bk w).1.1=1∨(bk w).1.1=3):=by
 constructor
 ·intro hne
  obtain⟨k1,k2⟩:=od h
  rcases qS k1 with e | ⟨n,e,_⟩ | ⟨t,e⟩ | ⟨b,e⟩ | ⟨n,e,h0⟩
  ·rw[e] at k2
   exact absurd (rt (b:=[]) k2.symm) hne
  ·rw[e]; exact .inl rfl
  ·rw[e] at k2
   exfalso
   have e2:w=39 :: lb t:=by
    have:ba w=ba (39 :: lb t):=by
     rw[←k2]
     show(⟨#[39]⟩:Z0)++t=_
     rw[←fm t,show(⟨#[39]⟩:Z0)=ba [39] from rfl,nt,dC]
     rfl
    exact rt this
   exact absurd (hw 39 (by rw[e2]; simp)) (by decide)
  ·rw[e]; exact .inr rfl
  ·rw[e] at k2
   exfalso
   have f : ∀ n:Fin 6,1≤n.val→df (n.val:Int)=ba (35 :: dz (n.val:Int)):=by decide +kernel
   have e2:w=35 :: dz (n.val:Int):=by
    have:ba w=ba (35 :: dz (n.val:Int)):=by
     rw[←k2]
     exact f n h0
    exact rt this
   exact absurd (hw 35 (by rw[e2]; simp)) (by decide)
 ·rintro hk rfl
  have:(bk []).1.1=0:=rfl
  omega
theorem Wt {s:Z0} {a:Int} {ns:List ab}:ff 5 s a false ns=uN s a false ns:=by
 rw[A5]
 simp only[Z5,ad_,hY]
 rfl
abbrev Rb (k:Int):ab:=(4,0,(0,0,(⟨#[]⟩:Z0),()),((0,0,()),false,false,()),((0,0,()),false,false,()),([k]:(List Int)),())
theorem Ts:ByteArray.size ⟨#[]⟩≤9223372036854775807:=by decide
theorem qp {s m:ag} {L i j:Int} {l1 l2:ag} {b:Bool} {ns1 ns2:List ab} (hd:Dm b ns1) (h1:l1 <:+ m) (h2:ns1.length≤60) (h3:l2 <:+ s) (h4:ns2.length≤61+m.length):nv s m L (some ((i,()),((ba l1,ns1,b,()),()))) (some ((j,()),((ba s,bU s l2,true,ns2,()),()))) :=
 .inr ⟨i,l1,b,ns1,j,l2,ns2,rfl,hd,h1,h2,rfl,h3,h4⟩
theorem VG {s:ag} (hs:s.length≤200) {n:Nat} (HB:Tq s n) {m:ag} (hbm:bl m=m) (hms:m <:+ s) (hmn:m.length≤n) {deep:Int} {ns:List ab} (hd0:0≤deep) (hd:deep+(m.length:Int)≤200) (ho:dL ns=true) (hn:ns.length≤60) :
  nv s m 5 (e8 deep (m.takeWhile aP) (m.dropWhile aP) false ns) ((mt (ba s) (bU s m) false ns).bind fun z10=>(fL z10.1.1 1 z10.2.1.1 z10.2.1.2.1 z10.2.1.2.2.1 z10.2.1.2.2.2.1)):=by
 have hml:=aJ hms
 have hwl:=l9 aP m
 have hrm:m.dropWhile aP <:+ m:=ge_ _
 have hrs:=aj hrm hms
 have hrl:=aJ hrm
 rw[D6 (by omega) hms]
 simp only[Z1]
 obtain⟨l',hl',e⟩:=Mg (w:=m.takeWhile aP) (s:=s) (ns:=ns) (by omega) (by omega) l8 [] (m.dropWhile aP) rfl hrs
 have e:fL (ba (m.takeWhile aP)) 1 (ba s) (bU s (m.dropWhile aP)) false ns=_:=e
 rw[e]
 have hl's:l' <:+ m:=by
  rcases hl' with rfl | rfl
  ·exact hrm
  ·exact aj (ay _) hrm
 have hlb:bl l'=bl (m.dropWhile aP):=by
  rcases hl' with rfl | rfl
  ·rfl
  ·exact dD _
 cases hf:l8.find? (fun k=>decide (dK k=m.takeWhile aP)) with
 | some k =>
  obtain⟨k',hk',hkw,hkm,hne⟩:=Pb (w:=m.takeWhile aP) (by rw[hf]; simp)
  rw[hf] at hk'
  cases hk'
  have hno : ∀ k∈l8,(bk (dK k)).2=false∧(cO (dK k)).2=false:=by decide +kernel
  obtain⟨v1,v2⟩:=hno k hkm
  rw[hkw] at v1 v2
  have hlt:=Pc (l:=m) (by rw[hbm]; exact hne)
  rw[hbm] at hlt
  have ei:e8 deep (m.takeWhile aP) (m.dropWhile aP) false ns=gB k deep (ba (m.dropWhile aP)) false ns:=by
   unfold e8
   rw[Z2 (by rw[v1]; simp),Z2 (by rw[v2]; simp),hf]
  rw[ei,po,Z2 (by decide),show(⟨#[40]⟩:Z0)=ba [40] from rfl,cX (by omega)]
  simp only[Z1,il (c:=40) (.inr (.inl rfl)),kL,Z4]
  by_cases h40:(bl (m.dropWhile aP)).head? = some 40
  ·simp only[h40,bv_,Bool.and_true,hf,al_,aj_]
   have hdl:=oh h40
   have hds:(bl (m.dropWhile aP)).drop 1 <:+ m:=aj (iB _) hrm
   have hb2:=aJ (ay ((bl (m.dropWhile aP)).drop 1))
   rw[Js,Ra]
   exact(VE hs HB _ _ _ rfl rfl (aj hds hms) (aj hds hms) (by omega) k deep [] ns hd0 (by omega) (by simp only[bg_]; omega) ho hn).mono (aj (ay _) hds)
  ·simp only[h40,ca_,Bool.and_false,ad_,as_]
   have e0:l8.find? (fun _=>false)=none:=rfl
   rw[e0]
   simp only
   have es:ql (m.takeWhile aP) s (bU s l') false ns=some ((0,()),((ba s,bU s l',true,ns,()),())):=by
    unfold ql
    rw[Z2 (by rw[v1]; simp),Z2 (by rw[v2]; simp)]
   rw[es,je]
   simp only[aj_,Z5,ad_,gK]
   exact jN (fk hn (F3 (by simp))) (F4 ho) (aj (ay _) hrm) rfl (aj hl's hms) (by omega)
 | none =>
  have e0:l8.find? (fun k=>decide (dK k=m.takeWhile aP) && ([40]:ag).isPrefixOf (bl (m.dropWhile aP)))=none:=by
   rw[List.find?_eq_none] at hf ⊢
   intro k hk
   have:=hf k hk
   simp only[Z9] at this
   simp[this]
  rw[e0]
  simp only
  unfold ql e8
  rw[hf]
  have hv:=fun h=>VF (w:=m.takeWhile aP) (fun c hc=>II hc) h
  by_cases hc:(bk (m.takeWhile aP)).2=true∧m.takeWhile aP≠[]
  ·rw[Z3 hc,Z3 ⟨hc.1,(hv hc.1).1 hc.2⟩,jC]
   exact qn (Pa (bf_ (eU (od hc.1).1) (by decide))) hlb.symm hrm hl's hms ho hn
  ·rw[Z2 hc,Z2 (fun h=>hc ⟨h.1,(hv h.1).2 h.2⟩)]
   by_cases hp:(cO (m.takeWhile aP)).2=true
   ·rw[Z3 hp,Z3 hp]
    exact qn rfl hlb.symm hrm hl's hms ho hn
   ·rw[Z2 hp,Z2 hp]
    exact qp (F4 ho) hrm hn (aj hl's hms) (by omega)
theorem Tt {s:ag} (hs:s.length≤200) {n:Nat} (HB:Tq s n) : ∀(k:Nat) (l l0:ag),(bl l).length=k→bl l=bl l0→l <:+ s→l0 <:+ s→(bl l).length≤n → ∀(deep:Int) (ns:List ab),0≤deep→deep+((bl l).length:Int)≤200→dL ns=true→ns.length≤60 →
  nv s (bl l) 5 (eQ deep (ba l) false ns) (uN (ba s) (bU s l0) false ns):=by
 intro k
 induction k using Nat.strongRecOn with
 | ind k ih =>
  intro l l0 hk hb hs1 hs2 hln deep ns hd0 hd ho hn
  subst hk
  have hl1:=aJ hs1
  have hm1:=aJ (ay l)
  have hms:bl l <:+ s:=aj (ay l) hs1
  rw[kH,aL (by omega),Lr,show(⟨#[45]⟩:Z0)=ba [45] from rfl,show(⟨#[40]⟩:Z0)=ba [40] from rfl,show(⟨#[34]⟩:Z0)=ba [34] from rfl,show(⟨#[35]⟩:Z0)=ba [35] from rfl,show(⟨#[41]⟩:Z0)=ba [41] from rfl,cX (by omega),i8 (by omega) (by decide) hs2]
  simp only[Z1,Z5,ad_,gK,hY,il (c:=45) (.inl rfl),Z4,as_,bj_,kL,←hb]
  by_cases h45:(bl l).head? = some 45
  ·simp only[h45,bv_,al_]
   have hlt:=oh h45
   have hX:(bl l).drop 1 <:+ bl l:=gh 1 _
   have hbX:=aJ (ay ((bl l).drop 1))
   have hlX:((bl l).drop 1).length < (bl l).length:=by
    obtain⟨t,ht⟩:=iA h45
    rw[ht]
    simp
   rw[wr (by omega) (by omega),Wt]
   refine qo (ih _ (by omega) _ _ rfl rfl (aj hX hms) (aj hX hms) (by omega) (deep+1) ns (by omega) (by omega) ho hn) ?_ ?_
   ·intro i x1 x2 ns' e1 e2 e3 e4 e5 _
    exact qn (x:=Rb i) rfl e1 (aj e2 (aj (ay _) hX)) (aj e3 (aj (ay _) hX)) hms e4 e5
   ·intro i x1 b1 ns1 j x2 ns2 e1 e2 e3 e4 e5
    refine jN (fk e3) e1 (aj e2 (aj (ay _) hX)) (Mk (x:=Rb j) (ns:=ns2) (by omega) Ts) e4 ?_
    show(ns2++[Rb j]).length≤_
    rw[Z7,Z4]
    omega
  ·simp only[h45,ca_,Z5,ad_]
   rw[qm (by omega),i8 (by omega) (by decide) hms]
   simp only[Z1,dD,as_,bj_,kL,Z4]
   by_cases h40:(bl l).head? = some 40
   ·have n34 : ¬(bl l).head? = some 34:=by rw[h40]; decide
    have n35 : ¬(bl l).head? = some 35:=by rw[h40]; decide
    simp only[h40,bv_,al_]
    rw[Z2 (by decide),Z2 (by decide)]
    have hX:(bl l).drop 1 <:+ bl l:=gh 1 _
    have hbX:=aJ (ay ((bl l).drop 1))
    have hlX:((bl l).drop 1).length < (bl l).length:=by
     obtain⟨t,ht⟩:=iA h40
     rw[ht]
     simp
    rw[wr (by omega) (by omega)]
    refine qo (HB _ _ rfl (aj hX hms) (aj hX hms) (by omega) 1 (deep+1) ns (by decide) (by decide) (by omega) (by omega) ho hn) ?_ ?_
    ·intro i x1 x2 ns' e1 e2 e3 e4 e5 _
     have hx1:x1 <:+ bl l:=aj e2 (aj (ay _) hX)
     have hx2:x2 <:+ bl l:=aj e3 (aj (ay _) hX)
     have hlx:=aJ hx1
     simp only[Z5,ad_]
     rw[cX (by omega),i8 (by omega) (by decide) (aj hx2 hms)]
     simp only[Z1,il (c:=41) (.inr (.inr (.inl rfl))),Z4,as_,bj_,kL,←e1]
     by_cases h41:(bl x1).head? = some 41
     ·simp only[h41,bv_,al_,aj_,Z5,ad_]
      have hd1:(bl x1).drop 1 <:+ bl l:=aj (iB x1) hx1
      exact .inl ⟨i,(bl x1).drop 1,(bl x1).drop 1,ns',rfl,rfl,rfl,hd1,hd1,e4,e5,.inr (Q9 _)⟩
     ·simp only[h41,ca_,ad_,as_,Z5,al_]
      have hd1:bl x1 <:+ bl l:=aj (ay x1) hx1
      exact qp (F4 e4) hd1 e5 (aj hd1 hms) (by omega)
    ·intro i x1 b1 ns1 j x2 ns2 e1 e2 e3 e4 e5
     have hx1:x1 <:+ bl l:=aj e2 (aj (ay _) hX)
     have hlx:=aJ hx1
     rw[i8 (by omega) (by decide) e4]
     simp only[Z1,aj_,Bool.false_and,Z5,ad_,as_,al_]
     cases b1 with
     | true =>
      simp only[al_]
      exact qp ⟨.inl rfl,e1.2⟩ hx1 e3 (aj (ay x2) e4) (by omega)
     | false =>
      simp only[Z5,ad_]
      rw[cX (by omega)]
      simp only[Z1]
      have hdm:dL ns1=false:=e1.1.elim (fun h=>by cases h) id
      refine qp ⟨.inr hdm,e1.2⟩ ?_ e3 (aj (ay x2) e4) (by omega)
      split
      ·exact aj (aj (gh _ _) (ay _)) hx1
      ·exact aj (ay _) hx1
   ·simp only[h40,ca_,Z5,ad_]
    rw[i8 (by omega) (by decide) hms]
    simp only[Z1,dD,as_,bj_,kL,Z4]
    by_cases h34:(bl l).head? = some 34
    ·simp only[h34,bv_,al_]
     obtain⟨t,ht⟩:=iA h34
     have htl:t.length+1=(bl l).length:=by rw[ht]; simp
     have hts:t <:+ bl l:=⟨[34],by rw[ht]; rfl⟩
     rw[ht]
     simp only[bh_,ce_]
     rw[yV (by omega),VA (by omega) (aj hts hms)]
     cases hq:qt t with
     | none =>
      rw[←ht]
      exact qp (F4 ho) (og _) hn ⟨s,by simp⟩ (by omega)
     | some p =>
      obtain⟨q1,q2,q3⟩:=Tj t p.1 p.2 hq
      show nv s _ 5 (bS _ _ false ns) (cm _ _ _ false ns)
      rw[jC,←ht]
      have hp:=aj q1 hts
      refine qn (x:=nC (2,0,ba ([]++p.1),())) (Pa ?_) rfl hp hp hms ho hn
      show(ba ([]++p.1)).size≤_
      rw[az]
      simp only[ei_]
      omega
    ·simp only[h34,ca_,Z5,ad_]
     rw[i8 (by omega) (by decide) hms]
     simp only[Z1,dD,as_,bj_,kL,Z4]
     by_cases h35:(bl l).head? = some 35
     ·simp only[h35,bv_,al_]
      obtain⟨t,ht⟩:=iA h35
      have htl:t.length+1=(bl l).length:=by rw[ht]; simp
      have hts:t <:+ bl l:=⟨[35],by rw[ht]; rfl⟩
      rw[ht]
      simp only[bh_,ce_]
      have es:=Iz (s:=s) (l:=t) (b:=false) (ns:=ns) (by omega) (aj hts hms) pB [] rfl
      have es:jn 1 (ba s) (bU s t) false ns=_:=es
      rw[Ha (by omega),es]
      cases pB.find? (gX t) with
      | none =>
       simp only
       rw[←ht]
       exact qp (F4 ho) (og _) hn (aj hts hms) (by omega)
      | some e =>
       simp only
       rw[jC,←ht]
       have hp:=aj (gh (dz e).length t) hts
       exact qn (x:=nC (vE e)) (Pa (by show eS.size≤_; decide)) rfl hp hp hms ho hn
     ·simp only[h35,ca_,Z5,ad_]
      exact VG hs HB (dD l) hms hln hd0 hd ho hn
noncomputable def Bp:Nat→Int→(Int×Unit)×(ld×Unit)→RS
 | 0,_,z=>some ((z.1.1,()),(z.2.1,()))
 | c+1,L,z=>(dH (L+(c:Int)) z.1.1 z.2.1.1 z.2.1.2.1 z.2.1.2.2.1 z.2.1.2.2.2.1).bind (Bp c L)
theorem Hb {L a:Int} {s:Z0} {i:Int} {ns:List ab}:dH L a s i true ns=some ((a,()),((s,i,true,ns,()),())):=by
 rw[u3]
 rfl
theorem Ch : ∀(c:Nat) (L a:Int) (s:Z0) (i:Int) (ns:List ab),Bp c L ((a,()),((s,i,true,ns,()),()))=some ((a,()),((s,i,true,ns,()),()))
 | 0,_,_,_,_,_=>rfl
 | c+1,L,a,s,i,ns=>by
  show(dH _ a s i true ns).bind (Bp c L)=_
  rw[Hb]
  exact Ch c L a s i ns
theorem Ml : ∀(c:Nat) (L:Int) (z:(Int×Unit)×(ld×Unit)),Bp (c+1) L z=(Bp c (L+1) z).bind fun z2=>dH L z2.1.1 z2.2.1.1 z2.2.1.2.1 z2.2.1.2.2.1 z2.2.1.2.2.2.1
 | 0,L,z=>by
  show(dH (L+((0:Nat):Int)) z.1.1 z.2.1.1 z.2.1.2.1 z.2.1.2.2.1 z.2.1.2.2.2.1).bind (fun z=>some ((z.1.1,()),(z.2.1,())))=dH L z.1.1 z.2.1.1 z.2.1.2.1 z.2.1.2.2.1 z.2.1.2.2.2.1
  rw[hY,show L+((0:Nat):Int)=L by omega]
 | c+1,L,z=>by
  show(dH (L+((c+1:Nat):Int)) z.1.1 z.2.1.1 z.2.1.2.1 z.2.1.2.2.1 z.2.1.2.2.2.1).bind (Bp (c+1) L)=((dH (L+1+(c:Int)) z.1.1 z.2.1.1 z.2.1.2.1 z.2.1.2.2.1 z.2.1.2.2.2.1).bind (Bp c (L+1))).bind _
  rw[show L+((c+1:Nat):Int)=L+1+(c:Int) by omega,Option.bind_assoc]
  congr 1
  funext y
  exact Ml c L y
theorem F5 {s:Z0} {a:Int} {ns:List ab} : ∀(c:Nat) (L:Int),L+(c:Int)=5→1≤L→ff L s a false ns=(ff 5 s a false ns).bind (Bp c L)
 | 0,L,h,_=>by
  have:L=5:=by omega
  subst this
  exact hY.symm
 | c+1,L,h,h1=>by
  have hL : ¬(L == 5)=true:=by simp only[beq_iff_eq]; omega
  rw[A5,Z2 (by decide),Z2 hL,wr (by omega) (by omega),F5 c (L+1) (by omega) (by omega),Option.bind_assoc]
  congr 1
  funext z
  exact(Ml c L z).symm
abbrev nB (op a b:Int):ab:=(5,op,(0,0,(⟨#[]⟩:Z0),()),((0,0,()),false,false,()),((0,0,()),false,false,()),([a,b]:(List Int)),())
theorem VH {s m' l1 l2:ag} {L':Int} {x:ab} {ns:List ab} {K:(Int×Unit)×(p6×Unit)→RI} {K':(Int×Unit)×(ld×Unit)→RS} (hsx:vm x=true) (ho:dL ns=true) (hn:ns.length≤60)
  (hg:dL (ns++[x])=true→(ns++[x]).length≤60→nv s m' L' (K (((ns.length:Int),()),((ba l1,ns++[x],false,()),()))) (K' (((ns.length:Int),()),((ba s,bU s l2,false,ns++[x],()),()))))
  (hd : ∀(i:Int) (b1:Bool) (ns1:List ab),Dm b1 ns1→ns1.length≤60→nv s m' L' (K ((i,()),((ba l1,ns1,b1,()),()))) (K' (((ns.length:Int),()),((ba s,bU s l2,true,ns++[x],()),())))) :
  nv s m' L' ((aI x (ba l1) false ns).bind K) ((cm x (ba s) (bU s l2) false ns).bind K'):=by
 have hx:=Mj hsx
 obtain⟨i,e,hi⟩:=xA (x:=x) (l:=l1) (b:=false) hn
 rw[e,G7 (by omega) hx]
 simp only[Z1]
 by_cases hlt:ns.length < 60
 ·have hi:=hi rfl hlt
  subst hi
  have d60:decide (60≤ns.length)=false:=bm_ (by omega)
  simp only[d60,hlt,and_self,al_,fo_]
  cases hk:bR x with
  | true =>
   refine hg ?_ ?_
   ·unfold dL at ho ⊢
    rw[cf_,ho]
    simp[hk]
   ·rw[Z7,Z4]; omega
  | false =>
   refine hd _ false (ns++[x]) ⟨.inr ?_,Pd (ui ho) hsx⟩ ?_
   ·unfold dL
    rw[cf_]
    simp[hk]
   ·rw[Z7,Z4]; omega
 ·have d60:decide (60≤ns.length)=true:=ba_ (by omega)
  rw[d60,Z2 (by omega)]
  simp only[fo_,Bool.true_or]
  exact hd i true ns (F4 ho) hn
theorem VI {s:ag} (hs:s.length≤200) {n:Nat} (HB:Tq s n) : ∀(k c:Nat) (l1 l2 M:ag),(bl l1).length=k→bl l1=bl l2→l1 <:+ M→l2 <:+ M→M <:+ s→(bl l1).length≤n → ∀(L left deep:Int) (ns:List ab),1≤L→L+(c:Int)≤5→0≤deep→deep+((bl l1).length:Int)≤200→dL ns=true→ns.length≤60→(d8 (bl l1)=0∨cz (d8 (bl l1)) < L+(c:Int)) →
  nv s M L (cE L deep left (ba l1) false ns) (Bp c L ((left,()),((ba s,bU s l2,false,ns,()),()))):=by
 intro k
 induction k using Nat.strongRecOn with
 | ind k ih =>
  intro c
  induction c with
  | zero =>
   intro l1 l2 M hk hb hs1 hs2 hMs hln L left deep ns hL0 hL1 hd0 hd ho hn hpost
   have hl1:=aJ (aj hs1 hMs)
   have hbl:=aJ (ay l1)
   obtain⟨o1,o2⟩:=l7 (bl l1)
   rw[fz]
   simp only[as_,al_]
   rw[ug (by omega),xC o1 o2 (by omega) (fun h=>by rw[dD]; exact qk h),Z3 (by omega)]
   refine .inl ⟨left,bl l1,l2,ns,rfl,rfl,by rw[dD,hb],aj (ay l1) hs1,hs2,ho,hn,?_⟩
   rw[dD]
   omega
  | succ c ihc =>
   intro l1 l2 M hk hb hs1 hs2 hMs hln L left deep ns hL0 hL1 hd0 hd ho hn hpost
   have hl1:=aJ (aj hs1 hMs)
   have hbl:=aJ (ay l1)
   have hs2s:=aj hs2 hMs
   obtain⟨o1,o2⟩:=l7 (bl l1)
   obtain⟨l',hl',eop⟩:=Yt (s:=s) (l:=l2) (ns:=ns) (L:=L+(c:Int)) (by omega) (by omega) hs2s
   have hCh:Bp (c+1) L ((left,()),((ba s,bU s l2,false,ns,()),()))=(dH (L+(c:Int)) left (ba s) (bU s l2) false ns).bind (Bp c L):=rfl
   rw[hCh,u3]
   simp only[as_,al_]
   rw[eop,←hb]
   by_cases hop:d8 (bl l1)≠0∧cz (d8 (bl l1))=L+(c:Int)
   ·rw[Z3 hop]
    have h0 : ¬(d8 (bl l1) == 0)=true:=by simpa using hop.1
    unfold yT
    simp only[Z1]
    rw[Z2 h0,←hb,wr (by omega) (by omega)]
    have hlt:=Mi hop.1
    have hX:(bl l1).drop (du (d8 (bl l1))).length <:+ M:=aj (gh _ _) (aj (ay l1) hs1)
    have hXM:=aJ hX
    have hXl:((bl l1).drop (du (d8 (bl l1))).length).length < (bl l1).length:=by
     have:=Mi (l:=bl l1) (by rw[dD]; exact hop.1)
     rw[dD] at this
     exact this
    have hbX:=aJ (ay ((bl l1).drop (du (d8 (bl l1))).length))
    rw[fz]
    simp only[as_,al_]
    rw[ug (by omega),xC o1 o2 (by omega) (fun h=>by rw[dD]; exact qk h),Z2 (by omega),dD,hop.2,Option.bind_assoc]
    have hMl:(bl l1).length≤M.length:=aJ (aj (ay l1) hs1)
    refine qo (HB _ _ rfl (aj hX hMs) (aj hX hMs) (by omega) (L+(c:Int)+1) deep ns (by omega) (by omega) hd0 (by omega) ho hn) ?_ ?_
    ·intro i x1 x2 ns' e1 e2 e3 e4 e5 e6
     have hx1:x1 <:+ M:=aj e2 (aj (ay _) hX)
     have hx2:x2 <:+ M:=aj e3 (aj (ay _) hX)
     have hxl:=aJ e2
     have hbx:=aJ (ay x1)
     have hxM:=aJ hx1
     have hMsl:=aJ hMs
     simp only
     rw[Option.bind_assoc]
     refine VH (x:=nB (d8 (bl l1)) left i) rfl e4 e5 ?_ ?_
     ·intro a1 a2
      exact ih _ (by omega) (c+1) x1 x2 M rfl e1 hx1 hx2 hMs (by omega) L _ deep _ hL0 hL1 hd0 (by omega) a1 a2 (by omega)
     ·intro i2 b1 ns1 a1 a2
      simp only
      rw[Hb]
      simp only[Z1]
      rw[Ch]
      refine jN (yW _ x1 rfl (fun l' _ deep least b ns d0 d1 hn=>Cf l' deep least b ns d0 d1 hn) L deep i2 b1 ns1 hd0 (by omega) a2) a1 hx1 rfl (aj hx2 hMs) ?_
      rw[Z7,Z4]
      omega
    ·intro i x1 b1 ns1 j x2 ns2 e1 e2 e3 e4 e5
     have hx1:x1 <:+ M:=aj e2 (aj (ay _) hX)
     have hxM:=aJ hx1
     have hMsl:=aJ hMs
     simp only
     rw[Mk (x:=nB (d8 (bl l1)) left j) (ns:=ns2) (by omega) Ts]
     simp only[Z1]
     rw[Hb]
     simp only[Z1]
     rw[Ch]
     obtain⟨i3,l3,b3,ns3,h3,j1,j2,j3⟩:=(fk (x:=nB (d8 (bl l1)) left i) (l:=x1) (b:=b1) e3).dm e1
     rw[h3]
     simp only[Z1]
     have hs3:=aJ j1
     refine jN (yW _ l3 rfl (fun l' _ deep least b ns d0 d1 hn=>Cf l' deep least b ns d0 d1 hn) L deep i3 b3 ns3 hd0 (by omega) j3) j2 (aj j1 hx1) rfl e4 ?_
     rw[Z7,Z4]
     omega
   ·rw[Z2 hop]
    unfold yT
    simp only[Z1]
    rw[Z3 (by rfl)]
    simp only[Z1]
    have hb':bl l1=bl l':=by
     rcases hl' with rfl | rfl
     ·exact hb
     ·rw[dD,hb]
    have hs':l' <:+ M:=by
     rcases hl' with rfl | rfl
     ·exact hs2
     ·exact aj (ay l2) hs2
    exact ihc l1 l' M hk hb' hs1 hs' hMs hln L left deep ns hL0 (by omega) hd0 hd ho hn (by omega)
theorem Tu {s:ag} (hs:s.length≤200) : ∀ n,Tq s n
 | 0=>fun l l0 _ _ _ h=>by omega
 | n+1=>by
  have HB:=Tu hs n
  intro l l0 hb hs1 hs2 hln L deep ns hL0 hL1 hd0 hd ho hn
  have hms:bl l <:+ s:=aj (ay l) hs1
  have hm:=aJ hms
  rw[m7,F5 (5 - L).toNat L (by omega) hL0,Wt]
  refine qo (Tt hs HB _ l l0 rfl hb hs1 hs2 (by omega) deep ns hd0 hd ho hn) ?_ ?_
  ·intro i x1 x2 ns' e1 e2 e3 e4 e5 _
   have hbx:=aJ (ay x1)
   have hx:=aJ e2
   exact VI hs HB _ (5 - L).toNat x1 x2 (bl l) rfl e1 e2 e3 hms (by omega) L i deep ns' hL0 (by omega) hd0 (by omega) e4 e5 (.inr (by have:=Q9 (d8 (bl x1)); omega))
  ·intro i x1 b1 ns1 j x2 ns2 e1 e2 e3 e4 e5
   have hx:=aJ e2
   rw[Ch]
   exact jN (yW _ x1 rfl (fun l' _ deep least b ns d0 d1 hn=>Cf l' deep least b ns d0 d1 hn) L deep i b1 ns1 hd0 (by omega) e3) e1 e2 rfl e4 e5
theorem Hc {ns:List ab} (h:sm ns=true) : ∀ x∈ns,x.2.2.1.2.2.1.size≤9223372036854775807:=by
 unfold sm at h
 rw[cc_] at h
 exact fun x hx=>Mj (h x hx)
theorem Hd {ns:List ab} (h:sm ns=true) : ∀ x∈ns,x.2.2.2.2.2.1.length≤10000000:=by
 unfold sm at h
 rw[cc_] at h
 intro x hx
 have:=h x hx
 unfold vm at this
 rw[Z8,Z9,Z9] at this
 omega
theorem Yu (s:ag):bU s s=0:=by
 unfold bU
 omega
theorem J3 {x:Z0} (hx:x.size≤9223372036854775807) : ∃(f:List ab) (b:Bool),iP x=some ((f,b,()),())∧j7 x=some ((f,b,()),())∧(b=true→dJ f=true)∧(b=false→f=[]):=by
 obtain⟨s,rfl⟩ : ∃ s,x=ba s:=⟨lb x,(fm x).symm⟩
 rw[Fk,uY,qQ hx,sr hx]
 simp only[Z1]
 cases hp:(plain (ba s) && decide (((ba s).size:Int)≤200)) with
 | false=>exact⟨[],false,rfl,rfl,(fun h=>by cases h),fun _=>rfl⟩
 | true =>
  rw[Z8,Z9,az] at hp
  have hs:s.length≤200:=by omega
  have hbl:=aJ (ay s)
  have h:=Tu hs (s.length+1) s s rfl (og s) (og s) (by omega) 1 0 [] (by decide) (by decide) (by decide) (by omega) rfl (by simp)
  rw[Yu] at h
  simp only[aj_,Z5,ad_]
  rcases h with⟨i,l1,l2,ns,e1,e2,h1,h2,h3,h4,h5,h6⟩ | ⟨i,l1,b1,ns1,j,l2,ns2,e1,h1,h2,h3,e2,h4,h5⟩
  ·rw[e1,e2]
   simp only[Z1]
   rw[L9 (by omega) (aj h3 (ay s)),mP]
   simp only[Z1,Z5,ad_]
   have e0:(Z6 (ba (bl l1)) == Z6 (⟨#[]⟩:Z0))=decide (bl l1=[]):=dn (b:=[])
   rw[e0,←h1,az,kY (by omega) (Hc (ui h4)) (Hd (ui h4)),jo (by omega) (Hc (ui h4)) (Hd (ui h4))]
   simp only[Z1]
   by_cases hr:bl l1=[]
   ·rw[aL (by rw[hr]; unfold bU; simp),hr]
    simp only[bv_,aj_,Z5,ad_]
    cases hk:dJ ns with
    | true=>exact⟨ns,true,rfl,rfl,fun _=>hk,fun h=>by cases h⟩
    | false=>exact⟨[],false,rfl,rfl,(fun h=>by cases h),fun _=>rfl⟩
   ·have hlen:=eb_.2 hr
    have hls:=aJ (aj (aj (ay l1) h2) (ay s))
    rw[aQ (by unfold bU; omega)]
    simp only[hr,ca_,as_,al_]
    exact⟨[],false,rfl,rfl,(fun h=>by cases h),fun _=>rfl⟩
  ·rw[e1,e2]
   simp only[Z1]
   rw[L9 (by omega) h4,mP]
   simp only[Z1,al_]
   refine⟨[],false,rfl,?_,(fun h=>by cases h),fun _=>rfl⟩
   cases b1 with
   | true=>rfl
   | false =>
    have hbad:dL ns1=false:=h1.1.elim (fun h=>by cases h) id
    simp only[Z5,ad_]
    split
    ·rfl
    ·rw[kY (by omega) (Hc h1.2) (Hd h1.2)]
     simp only[Z1]
     cases hk:dJ ns1 with
     | false=>rfl
     | true =>
      exfalso
      have:dL ns1=true:=by
       unfold dL
       rw[cc_]
       intro y hy
       obtain⟨i,hi⟩:=List.getElem?_of_mem hy
       exact(iu hk i y hi).1
      rw[this] at hbad
      cases hbad
def qT:ag→ag
 | []=>[]
 | c :: l=>if c=34 then 34 :: 34 :: qT l else c :: qT l
theorem Tv : ∀ l:ag,(qT l).length≤2*l.length
 | []=>by simp[qT]
 | c :: l=>by
  have:=Tv l
  unfold qT
  split <;> simp only[aa_] <;> omega
theorem Mm (l:ag) : ∀ pre:ag,(34:UInt8) ∉ pre→qT (pre++l)=pre++qT l
 | [],_=>rfl
 | c :: pre,h=>by
  simp only[bd_,not_or] at h
  rw[ck_,qT,Z2 (fun e=>h.1 e.symm),Mm l pre h.2]
  rfl
theorem Rc : ∀(n:Nat) (l:ag),l.length=n→Lib.replaceK [34] [34,34] (l.count 34) l=qT l:=by
 intro n
 induction n using Nat.strongRecOn with
 | ind n ih =>
  intro l hn
  by_cases hm:(34:UInt8)∈l
  ·obtain⟨pre,t,rfl,h2⟩:=D7 34 l hm
   have hc:(pre++34 :: t).count 34=t.count 34+1:=by
    rw[List.count_append,List.count_eq_zero.2 h2,List.count_cons_self]
    omega
   have hi:Lib.index (pre++34 :: t) [34]=(pre.length:Nat):=by rw[Lib.index_one,G8 34 t pre h2]
   rw[hc,Lib.replaceK_hit _ _ _ _ _ hi,List.take_left' rfl,Mm _ pre h2]
   have hd:(pre++34 :: t).drop (pre.length+([34]:ag).length)=t:=by
    have:pre++34 :: t=(pre++[34])++t:=by simp
    rw[this,List.drop_left' (by simp)]
   rw[hd,ih t.length (by rw[←hn]; simp; omega) t rfl]
   simp[qT]
  ·rw[List.count_eq_zero.2 hm]
   have:=Mm [] l hm
   rw[bz_] at this
   rw[this]
   simp[qT,Lib.replaceK]
theorem NZ {l:ag} (hl:l.length≤1000000):strings_ReplaceAll (ba l) (⟨#[34]⟩:Z0) (⟨#[34,34]⟩:Z0)=some ((ba (qT l),()),()):=by
 rw[w8]
 have hcount:Lib.countB (ba l) (ba [34])=l.count 34:=by
  show Lib.count (lb (ba l)) (lb (ba [34]))=_
  rw[dC,dC,Lib.count_one]
 have hle:l.count 34≤l.length:=List.count_le_length
 show(if(ba l).size < 4294967281∧1≤(ba [34]).size∧(ba l).size+Lib.countB (ba l) (ba [34])*(ba [34,34]).size≤140737488355328 then some (((⟨(Lib.replaceAll (lb (ba l)) (lb (ba [34])) (lb (ba [34,34]))).toArray⟩:Z0),()),()) else none)=_
 rw[Z3 ⟨by rw[az]; omega,by decide,by rw[hcount,az,az]; simp only[aa_,bg_]; omega⟩,dC,dC,dC]
 congr 3
 show ba (Lib.replaceAll l [34] [34,34])=_
 unfold Lib.replaceAll Lib.replace Lib.replaceNum
 rw[Z2 (by decide),Z3 (.inl (by decide)),Lib.count_one,Rc _ l rfl]
theorem wc {s:ag} (hs:s.length≤1000000) : ∀(l acc:ag),l <:+ s→acc.length+2*l.length≤4000000→nj (ba s) (ba acc) (bU s l)=some ((ba (acc++qT l++[34]),()),())
 | [],acc,h,ha=>by
  rw[xh,aL (by rw[az]; unfold bU; simp),show(⟨#[34]⟩:Z0)=ba [34] from rfl,bB (by simp only[Z4]; simp at ha; omega)]
  simp[qT]
 | c :: l,acc,h,ha=>by
  obtain⟨pre,h1,h2⟩:=oe h
  have hl:pre.length+l.length+1=s.length:=by rw[h1]; simp; omega
  rw[aa_] at ha
  have h':l <:+ s:=aj ⟨[c],rfl⟩ h
  have e1:(pre.length:Int)+1=bU s l:=by
   unfold bU
   omega
  have e3:(s.take (pre.length+1)).drop pre.length=[c]:=by
   rw[h1,List.take_append,List.drop_append]
   simp
  rw[xh,h2,aQ (by rw[az]; omega),kZ h1,D2 c 34 (n:=34) rfl,wr (by omega) (by omega),show(pre.length:Int)+1=((pre.length+1:Nat):Int) by omega,xr (by omega) (by omega),e3]
  by_cases hc:c=34
  ·subst hc
   rw[aQ rfl,show(⟨#[34]⟩:Z0)=ba [34] from rfl,bB (by simp only[Z4]; omega),xr (by omega) (by omega),e3,bB (by simp only[Z7,Z4]; omega),show((pre.length+1:Nat):Int)=bU s l by omega,wc hs l _ h' (by simp only[Z7,Z4]; omega)]
   simp[qT]
  ·rw[aL hc,bB (by simp only[Z4]; omega),show((pre.length+1:Nat):Int)=bU s l by omega,wc hs l _ h' (by simp only[Z7,Z4]; omega)]
   simp[qT,hc]
theorem Tw {l:ag} (hl:l.length≤1000000):DD (ba l)=some ((ba (34 :: (qT l++[34])),()),()):=by
 rw[Nw,show(⟨#[34]⟩:Z0)=ba [34] from rfl]
 have:=wc hl l [34] (og l) (by simp only[Z4]; omega)
 rw[Yu] at this
 rw[this]
 simp
def cj:List ag→ag
 | []=>[]
 | [x]=>x
 | x :: y :: l=>x++44 :: cj (y :: l)
def bO (f:List ab):Nat→Int→Int→ag
 | 0,_,_=>[]
 | n+1,k,L =>
  let x:=b8 f k
  if x.1=1 then(if x.2.2.1.1=2 then 34 :: (qT (lb x.2.2.1.2.2.1)++[34]) else lb (cH x.2.2.1))
  else if x.1=2 then fj x.2.2.2.1
  else if x.1=3 then fj x.2.2.2.1++58 :: fj x.2.2.2.2.1
  else if x.1=4 then 45 :: bO f n (x.2.2.2.2.2.1.getD 0 0) 5
  else if x.1=5 then
   let b:=bO f n (x.2.2.2.2.2.1.getD 0 0) (cz x.2.1)++(du x.2.1++bO f n (x.2.2.2.2.2.1.getD 1 0) (cz x.2.1+1))
   if cz x.2.1 < L then 40 :: (b++[41]) else b
  else dK x.2.1++40 :: (cj (x.2.2.2.2.2.1.map fun k=>bO f n k 1)++[41])
theorem Da : ∀ l:List ag,cj l=Lib.join l [44]
 | []=>rfl
 | [x]=>by rw[Lib.join_one]; rfl
 | x :: y :: l=>by
  rw[cj,Da (y :: l),Lib.join_cons,Lib.join_cons]
  simp[Lib.joinTail]
theorem Db (x:ag) : ∀(l:List ag),l≠[]→cj (l++[x])=cj l++44 :: x
 | [y],_=>rfl
 | y :: z :: l,_=>by
  show y++44 :: cj (z :: l++[x])=(y++44 :: cj (z :: l))++44 :: x
  rw[Db x (z :: l) (by simp)]
  simp
theorem F6 : ∀ l:List ag,(cj l).length≤(l.map ac_).sum+l.length
 | []=>by simp[cj]
 | [x]=>by simp[cj]
 | x :: y :: l=>by
  have:=F6 (y :: l)
  simp only[cj,Z7,aa_,bb_,List.sum_cons] at this ⊢
  omega
theorem VJ {xs:List ag} (h1:xs.length≤1000) (h2:(cj xs).length≤10000000):strings_Join (xs.map fun x=>ba x) (⟨#[44]⟩:Z0)=some ((ba (cj xs),()),()):=by
 rw[Ft]
 have e:(xs.map fun x=>ba x).map (·.data.toList)=xs:=by
  rw[fj_]
  conv=>rhs; rw[←List.map_id xs]
  apply List.map_congr_left
  intro x _
  exact dC x
 show(if(xs.map fun x=>ba x).length≤140737488355328∧(Lib.join ((xs.map fun x=>ba x).map (·.data.toList)) (lb (ba [44]))).length≤140737488355328 then some (((⟨(Lib.join ((xs.map fun x=>ba x).map (·.data.toList)) (lb (ba [44]))).toArray⟩:Z0),()),()) else none)=_
 rw[e,dC,←Da,Z3 ⟨by rw[cn_]; omega,by omega⟩]
theorem Ci {p:aM} (h:aA p.1=true):(fj p).length≤6:=by
 obtain⟨c,r,fc,fr,rfl,h1,h2,h3,h4⟩:=vj h
 have k1:=qj c
 have k2:=sx h4
 show(rX c r fc fr).length≤6
 unfold rX py
 simp only[Z7]
 cases fc <;> cases fr <;> simp <;> omega
theorem Pe (k:Int):(dK k).length≤5:=by
 unfold dK
 by_cases hi:k.toNat < 11
 ·have h : ∀ j:Fin 11,(([[],[83,85,77],[77,73,78],[77,65,88],[67,79,85,78,84],[73,70],[65,78,68],[79,82],[78,79,84],[65,66,83],[76,69,78]]:List ag).getD j.val []).length≤5:=by decide
  exact h ⟨k.toNat,hi⟩
 ·rw[ak_,List.getElem?_eq_none (by simp; omega)]
  simp
theorem Mn {c:Int→Option (Int×Nat)} {f:List ab} {call:Bool} : ∀(l:List Int) (cur:Int) (h:Nat) (s:Int) (h':Nat),et c f call l cur h=some (s,h') →
  (∀ kid∈l,∃ p,c kid=some p) ∧ ∀ g:Int→Nat,(∀ kid s' h'',c kid=some (s',h'')→(g kid:Int)≤1000*(kid - s'+1))→(((l.map g).sum:Nat):Int)≤1000*(cur - s)
 | [],cur,h,s,h',e=>by
  simp only[et,ap_,fa_] at e
  obtain⟨rfl,_⟩:=e
  exact⟨fun _ h=>by simp at h,fun g _=>by simp⟩
 | kid :: l,cur,h,s,h',e=>by
  simp only[et] at e
  split at e
  ·rename_i hk
   rw[Option.bind_eq_some_iff] at e
   obtain⟨p,hp,e⟩:=e
   obtain⟨k1,k2⟩:=Mn l p.1 _ s h' e
   refine⟨fun kid' hm => ?_,fun g hg => ?_⟩
   ·rcases bd_.1 hm with rfl | hm
    ·exact⟨p,hp⟩
    ·exact k1 kid' hm
   ·have h1:=k2 g hg
    have h2:=hg kid p.1 p.2 hp
    have:=hk.1
    simp only[bb_,List.sum_cons]
    omega
  ·cases e
section
variable {f:List ab}
theorem F7 (n:Nat) (k:Int):bO f n k 0=bO f n k 1:=by
 cases n with
 | zero=>rfl
 | succ n =>
  have hlv : ∀ j,¬cz j < 0 ∧ ¬cz j < 1:=by
   intro j
   unfold cz
   constructor <;> (repeat' split) <;> omega
  unfold bO
  simp only[(hlv _).1,(hlv _).2,ad_]
def Re (f:List ab) (n:Nat) (k:Int):Prop := ∀ L:Int,gC f k L=some ((ba (bO f n k L),()),())∧mv f k L=some ((ba (bO f n k L),()),())
theorem F8 {n:Nat} {kids:List Int} {a op:Int} {v:ae} {A B:aM} {kids':List Int} (hop:0≤op∧op≤10) (hl:kids.length≤10) (hk : ∀ k∈kids,Re f n k) (hlen:(cj (kids.map fun k=>bO f n k 1)).length≤1000000) : ∀(ys pre:List Int),kids=pre++ys →
  kG f kids (kids.length:Int) (pre.length:Int) a op v A B kids' ((pre.map fun k=>bO f n k 1).map fun x=>ba x)=some ((ba (dK op++40 :: (cj (kids.map fun k=>bO f n k 1)++[41])),()),())
 | [],pre,h=>by
  rw[bz_] at h
  subst h
  have hf:=Pe op
  rw[pL,aL (Int.lt_irrefl _),F0 hop.1 hop.2]
  simp only[Z1]
  rw[show(⟨#[40]⟩:Z0)=ba [40] from rfl,bB (by simp only[Z4]; omega),VJ (by rw[cn_]; omega) (by omega)]
  simp only[Z1]
  rw[bB (by simp only[Z7,Z4]; omega),show(⟨#[41]⟩:Z0)=ba [41] from rfl,bB (by simp only[Z7,Z4]; omega)]
  simp
 | y :: ys,pre,h=>by
  rw[pL,aQ (cr h),bI h,(hk y (by rw[h]; simp) 1).1]
  simp only[Z1]
  have hpl:pre.length≤10:=by
   have:=ae_ ac_ h
   simp at this
   omega
  rw[bJ (by simp only[cn_,Z4]; omega),bi h (by omega)]
  have:=F8 (a:=a) (v:=v) (A:=A) (B:=B) (kids':=kids') hop hl hk hlen ys (pre++[y]) (aU h)
  rw[fs_,fs_] at this
  exact this
theorem F9 {n:Nat} {kids:List Int} {a op:Int} {v:ae} {A B:aM} (hl:kids.length≤10) (hk : ∀ k∈kids,Re f n k) (hlen : ∀ pre ys:List Int,kids=pre++ys→(cj (pre.map fun k=>bO f n k 1)).length≤1000000) (hop:(dK op).length≤5) : ∀(ys pre:List Int),kids=pre++ys →
  nk f (ba (dK op++40 :: cj (pre.map fun k=>bO f n k 1))) (pre.length:Int) a op v A B kids=some ((ba (dK op++40 :: (cj (kids.map fun k=>bO f n k 1)++[41])),()),())
 | [],pre,h=>by
  have h0:=hlen pre [] h
  rw[bz_] at h
  subst h
  rw[xi,aL (Int.lt_irrefl _),show(⟨#[41]⟩:Z0)=ba [41] from rfl,bB (by simp only[Z7,aa_,bg_]; omega)]
  simp
 | y :: ys,pre,h=>by
  have h0:=hlen pre (y :: ys) h
  have h1:=hlen (pre++[y]) ys (aU h)
  have hpl:pre.length≤10:=by
   have:=ae_ ac_ h
   simp at this
   omega
  have ih:=F9 (a:=a) (v:=v) (A:=A) (B:=B) hl hk hlen hop ys (pre++[y]) (aU h)
  rw[fs_,List.map_singleton] at ih h1
  rw[xi,aQ (cr h)]
  by_cases hp:pre=[]
  ·subst hp
   simp only[ei_,List.map_nil,cj] at ih h1 ⊢
   rw[aL (by simp),bI (pre:=[]) h,(hk y (by rw[h]; simp) 0).2,F7]
   simp only[Z1]
   rw[bB (by simp only[Z7,aa_,bg_]; omega),bi (pre:=[]) h (by omega)]
   have e:dK op++[40]++bO f n y 1=dK op++40 :: bO f n y 1:=by simp
   rw[e]
   exact ih
  ·have hpos:=eb_.2 hp
   rw[Db _ _ (by simpa using hp)] at ih h1
   simp only[Z7,aa_] at h1
   rw[aQ (by omega),show(⟨#[44]⟩:Z0)=ba [44] from rfl,bB (by simp only[Z7,aa_,bg_]; omega),bI h,(hk y (by rw[h]; simp) 0).2,F7]
   simp only[Z1]
   rw[bB (by simp only[Z7,aa_,bg_]; omega),bi h (by omega)]
   have e:dK op++40 :: cj (pre.map fun k=>bO f n k 1)++[44]++bO f n y 1=dK op++40 :: (cj (pre.map fun k=>bO f n k 1)++44 :: bO f n y 1):=by simp
   rw[e]
   exact ih
end
section
variable {f:List ab}
theorem Yv {l:List Int} (h:l.length=2) : ∃ a b,l=[a,b]:=by
 match l,h with
 | [a,b],_=>exact⟨a,b,rfl⟩
theorem He (hf:f.length≤60) : ∀(n:Nat) (k s:Int) (h:Nat),dt f n k=some (s,h)→Re f n k ∧ ∀ L:Int,((bO f n k L).length:Int)≤1000*(k - s+1)
 | 0,k,s,h,e=>by simp[dt] at e
 | n+1,k,s,h,e=>by
  have hall:=fJ f (n+1) k s h e
  obtain⟨hs0,hsk,_⟩:=hall
  have IH:=He hf n
  simp only[dt] at e
  split at e
  ·rename_i h0
   split at e
   ·cases e
   ·rename_i x hx
    split at e
    ·rename_i hok
     obtain⟨q1,q2⟩:=Mn _ _ _ _ _ e
     have hkl:k < 60:=by
      have:=(List.getElem?_eq_some_iff.1 hx).1
      omega
     have hK : ∀ kid∈x.2.2.2.2.2.1,Re f n kid ∧ ∃ s' h',dt f n kid=some (s',h'):=by
      intro kid hm
      obtain⟨p,hp⟩:=q1 kid (List.mem_reverse.2 hm)
      exact⟨(IH kid p.1 p.2 hp).1,p.1,p.2,hp⟩
     have hnode:b8 f k=x:=by
      unfold b8
      rw[ak_,hx]
      rfl
     have hfx : ∀ L,bO f (n+1) k L=(if x.1=1 then(if x.2.2.1.1=2 then 34 :: (qT (lb x.2.2.1.2.2.1)++[34]) else lb (cH x.2.2.1))
      else if x.1=2 then fj x.2.2.2.1
      else if x.1=3 then fj x.2.2.2.1++58 :: fj x.2.2.2.2.1
      else if x.1=4 then 45 :: bO f n (x.2.2.2.2.2.1.getD 0 0) 5
      else if x.1=5 then(if cz x.2.1 < L then 40 :: ((bO f n (x.2.2.2.2.2.1.getD 0 0) (cz x.2.1)++(du x.2.1++bO f n (x.2.2.2.2.2.1.getD 1 0) (cz x.2.1+1)))++[41]) else(bO f n (x.2.2.2.2.2.1.getD 0 0) (cz x.2.1)++(du x.2.1++bO f n (x.2.2.2.2.2.1.getD 1 0) (cz x.2.1+1))))
      else dK x.2.1++40 :: (cj (x.2.2.2.2.2.1.map fun k=>bO f n k 1)++[41])):=by
      intro L
      conv=>lhs; unfold bO
      rw[hnode]
     have hI : ∀ L,gC f k L=_:=fun L=>(Fs (x0:=f) (x1:=k) (x2:=L)).trans (cP h0 hx)
     have hS : ∀ L,mv f k L=_:=fun L=>(Qm (x0:=f) (x1:=k) (x2:=L)).trans (cP h0 hx)
     unfold bR kl at hok
     by_cases c1:x.1=1
     ·rw[Z3 c1] at hok
      simp only[Z8,Z9] at hok
      have hv:=hok.1.1.2
      have hsz:=eU hv
      have b1:(x.1 == 1)=true:=by rw[c1]; rfl
      by_cases c2:x.2.2.1.1=2
      ·have b2:(x.2.2.1.1 == 2)=true:=by rw[c2]; rfl
       have hlb:(lb x.2.2.1.2.2.1).length≤200:=by rw[li]; exact hsz
       have hq:=Tv (lb x.2.2.1.2.2.1)
       have ea : ∀ L,bO f (n+1) k L=34 :: (qT (lb x.2.2.1.2.2.1)++[34]):=fun L=>by rw[hfx,Z3 c1,Z3 c2]
       refine⟨fun L=>⟨?_,?_⟩,fun L => ?_⟩
       ·rw[hI,Z3 b1,Z3 b2,←fm x.2.2.1.2.2.1,NZ (by omega)]
        simp only[Z1]
        rw[show(⟨#[34]⟩:Z0)=ba [34] from rfl,bB (by simp only[Z4]; omega),bB (by simp only[Z7,Z4]; omega),ea]
        simp
       ·rw[hS,Z3 b1,Z3 b2,←fm x.2.2.1.2.2.1,Tw (by omega)]
        simp only[Z1]
        rw[ea]
       ·rw[ea]
        simp only[aa_,Z7,bg_]
        omega
      ·have b2 : ¬(x.2.2.1.1 == 2)=true:=by simpa using c2
       have hvs:=Ij hv
       have ea : ∀ L,bO f (n+1) k L=lb (cH x.2.2.1):=fun L=>by rw[hfx,Z3 c1,Z2 c2]
       refine⟨fun L=>⟨?_,?_⟩,fun L => ?_⟩
       ·rw[hI,Z3 b1,Z2 b2,rL hv,ea,fm]
        rfl
       ·rw[hS,Z3 b1,Z2 b2,hJ (dM hv),Z3 hv,ea,fm]
        rfl
       ·rw[ea,li]
        omega
     rw[Z2 c1] at hok
     have b1 : ¬(x.1 == 1)=true:=by simpa using c1
     by_cases c2:x.1=2
     ·rw[Z3 c2] at hok
      simp only[Z8,Z9] at hok
      have b2:(x.1 == 2)=true:=by rw[c2]; rfl
      have hr:=hok.2
      have hp:=Ci hr
      have ea : ∀ L,bO f (n+1) k L=fj x.2.2.2.1:=fun L=>by rw[hfx,Z2 c1,Z3 c2]
      refine⟨fun L=>⟨?_,?_⟩,fun L => ?_⟩
      ·rw[hI,Z2 b1,Z3 b2,nO,Z3 hr,ea]
       rfl
      ·rw[hS,Z2 b1,Z3 b2,nQ,Z3 hr,ea]
       rfl
      ·rw[ea]
       omega
     rw[Z2 c2] at hok
     have b2 : ¬(x.1 == 2)=true:=by simpa using c2
     by_cases c3:x.1=3
     ·rw[Z3 c3] at hok
      simp only[Z8,Z9] at hok
      have b3:(x.1 == 3)=true:=by rw[c3]; rfl
      have ha:=hok.2
      unfold cy at ha
      simp only[Z8,Z9] at ha
      have hr1:=ha.1.1.1
      have hr2:=ha.1.1.2
      have hp1:=Ci hr1
      have hp2:=Ci hr2
      have ea : ∀ L,bO f (n+1) k L=fj x.2.2.2.1++58 :: fj x.2.2.2.2.1:=fun L=>by rw[hfx,Z2 c1,Z2 c2,Z3 c3]
      refine⟨fun L=>⟨?_,?_⟩,fun L => ?_⟩
      ·rw[hI,Z2 b1,Z2 b2,Z3 b3,nO,Z3 hr1]
       simp only[Z1]
       rw[show(⟨#[58]⟩:Z0)=ba [58] from rfl,bB (by simp only[Z4]; omega),nO,Z3 hr2]
       simp only[Z1]
       rw[bB (by simp only[Z7,Z4]; omega),ea]
       simp
      ·rw[hS,Z2 b1,Z2 b2,Z3 b3,nQ,Z3 hr1]
       simp only[Z1]
       rw[show(⟨#[58]⟩:Z0)=ba [58] from rfl,bB (by simp only[Z4]; omega),nQ,Z3 hr2]
       simp only[Z1]
       rw[bB (by simp only[Z7,Z4]; omega),ea]
       simp
      ·rw[ea]
       simp only[Z7,aa_]
       omega
     rw[Z2 c3] at hok
     have b3 : ¬(x.1 == 3)=true:=by simpa using c3
     by_cases c4:x.1=4
     ·rw[Z3 c4] at hok
      simp only[Z8,Z9] at hok
      have b4:(x.1 == 4)=true:=by rw[c4]; rfl
      obtain⟨a,hkids⟩ : ∃ a,x.2.2.2.2.2.1=[a]:=List.length_eq_one_iff.1 (by omega)
      obtain⟨hka,sa,ha,hca⟩:=hK a (by rw[hkids]; simp)
      rw[hkids] at e q2 hI hS hfx
      have hla:=fun L=>(IH a sa ha hca).2 L
      simp only[List.reverse_singleton,et] at e
      split at e
      ·rename_i hc
       rw[hca] at e
       simp only[Z1,ap_,fa_] at e
       obtain⟨rfl,_⟩:=e
       have ea : ∀ L,bO f (n+1) k L=45 :: bO f n a 5:=fun L=>by rw[hfx,Z2 c1,Z2 c2,Z2 c3,Z3 c4]; rfl
       have h5:=hla 5
       refine⟨fun L=>⟨?_,?_⟩,fun L => ?_⟩
       ·rw[hI,Z2 b1,Z2 b2,Z2 b3,Z3 b4,cP (y:=a) (by decide) rfl,(hka 5).1]
        simp only[Z1]
        rw[show(⟨#[45]⟩:Z0)=ba [45] from rfl,bB (by simp only[Z4]; omega),ea]
        rfl
       ·rw[hS,Z2 b1,Z2 b2,Z2 b3,Z3 b4,cP (y:=a) (by decide) rfl,(hka 5).2]
        simp only[Z1]
        rw[show(⟨#[45]⟩:Z0)=ba [45] from rfl,bB (by simp only[Z4]; omega),ea]
        rfl
       ·rw[ea]
        simp only[aa_]
        omega
      ·cases e
     rw[Z2 c4] at hok
     have b4 : ¬(x.1 == 4)=true:=by simpa using c4
     by_cases c5:x.1=5
     ·rw[Z3 c5] at hok
      simp only[Z8,Z9] at hok
      have b5:(x.1 == 5)=true:=by rw[c5]; rfl
      obtain⟨o1,o2⟩:=aH.1 hok.1.1.1.1
      obtain⟨a,b,hkids⟩ : ∃ a b,x.2.2.2.2.2.1=[a,b]:=Yv (by omega)
      obtain⟨hka,sa,ha,hca⟩:=hK a (by rw[hkids]; simp)
      obtain⟨hkb,sb,hb,hcb⟩:=hK b (by rw[hkids]; simp)
      rw[hkids] at e q2 hI hS hfx
      have hla:=fun L=>(IH a sa ha hca).2 L
      have hlb:=fun L=>(IH b sb hb hcb).2 L
      have hsa:=fJ f n a sa ha hca
      have hsb:=fJ f n b sb hb hcb
      simp only[List.reverse_cons,List.reverse_nil,ei_,ck_,et] at e
      split at e
      ·rename_i hc
       rw[hcb] at e
       simp only[Z1] at e
       split at e
       ·rename_i hc2
        rw[hca] at e
        simp only[Z1,ap_,fa_] at e
        obtain⟨rfl,_⟩:=e
        have hlv:1≤cz x.2.1∧cz x.2.1≤4:=by
         unfold cz
         constructor <;> (repeat' split) <;> omega
        have ho:=xz x.2.1
        have h1:=hla (cz x.2.1)
        have h2:=hlb (cz x.2.1+1)
        have i1:=hsa.2.1
        have i2:=hsb.2.1
        have ea : ∀ L,bO f (n+1) k L=if cz x.2.1 < L then 40 :: ((bO f n a (cz x.2.1)++(du x.2.1++bO f n b (cz x.2.1+1)))++[41]) else(bO f n a (cz x.2.1)++(du x.2.1++bO f n b (cz x.2.1+1))):=fun L=>by rw[hfx,Z2 c1,Z2 c2,Z2 c3,Z2 c4,Z3 c5]; rfl
        refine⟨fun L=>⟨?_,?_⟩,fun L => ?_⟩
        ·rw[hI,Z2 b1,Z2 b2,Z2 b3,Z2 b4,Z3 b5,Iw o1 o2]
         simp only[Z1]
         rw[cP (y:=a) (by decide) rfl,(hka _).1]
         simp only[Z1]
         rw[yR (by omega) o2]
         simp only[Z1]
         rw[bB (by omega),cP (y:=b) (by decide) rfl,wr (by omega) (by omega),(hkb _).1]
         simp only[Z1]
         rw[bB (by simp only[Z7]; omega),ea]
         by_cases hL:cz x.2.1 < L
         ·rw[aQ hL,Z3 hL,show(⟨#[40]⟩:Z0)=ba [40] from rfl,bB (by simp only[Z7,Z4]; omega),show(⟨#[41]⟩:Z0)=ba [41] from rfl,bB (by simp only[Z7,Z4]; omega)]
          simp
         ·rw[aL hL,Z2 hL]
          simp
        ·rw[hS,Z2 b1,Z2 b2,Z2 b3,Z2 b4,Z3 b5,wb]
         simp only[Z1]
         rw[cP (y:=a) (by decide) rfl,(hka _).2]
         simp only[Z1]
         rw[sy (by omega) o2]
         simp only[Z1]
         rw[bB (by omega),cP (y:=b) (by decide) rfl,wr (by omega) (by omega),(hkb _).2]
         simp only[Z1]
         rw[bB (by simp only[Z7]; omega),ea]
         by_cases hL:cz x.2.1 < L
         ·rw[aQ hL,Z3 hL,show(⟨#[40]⟩:Z0)=ba [40] from rfl,bB (by simp only[Z7,Z4]; omega),show(⟨#[41]⟩:Z0)=ba [41] from rfl,bB (by simp only[Z7,Z4]; omega)]
          simp
         ·rw[aL hL,Z2 hL]
          simp
        ·rw[ea]
         split <;> simp only[Z7,aa_,bg_] <;> omega
       ·cases e
      ·cases e
     rw[Z2 c5] at hok
     have b5 : ¬(x.1 == 5)=true:=by simpa using c5
     by_cases c6:x.1=6
     ·rw[Z3 c6] at hok
      simp only[Z8,Z9] at hok
      have hargs:=hok.1.1.1
      have hkn:1≤x.2.2.2.2.2.1.length∧x.2.2.2.2.2.1.length≤10∧0≤x.2.1∧x.2.1≤10:=by
       unfold i7 at hargs
       split at hargs
       ·simp only[cx_,Z9] at hargs
        omega
       ·split at hargs
        ·rename_i hi
         have:=aH.1 hi
         have:=aH.1 hargs
         omega
        ·split at hargs
         ·rename_i hi
          have:=aH.1 hi
          simp only[Z9] at hargs
          omega
         ·cases hargs
      have hg:=q2 (fun kid=>(bO f n kid 1).length) (fun kid s' h'' hc=>(IH kid s' h'' hc).2 1)
      rw[List.map_reverse,List.sum_reverse] at hg
      have hfn:=Pe x.2.1
      have hcl : ∀ l:List Int,(cj (l.map fun k=>bO f n k 1)).length≤(l.map fun k=>(bO f n k 1).length).sum+l.length:=by
       intro l
       have:=F6 (l.map fun k=>bO f n k 1)
       rw[fj_,cn_] at this
       exact this
      have hc0:=hcl x.2.2.2.2.2.1
      have ea : ∀ L,bO f (n+1) k L=dK x.2.1++40 :: (cj (x.2.2.2.2.2.1.map fun k=>bO f n k 1)++[41]):=fun L=>by rw[hfx,Z2 c1,Z2 c2,Z2 c3,Z2 c4,Z2 c5]
      refine⟨fun L=>⟨?_,?_⟩,fun L => ?_⟩
      ·rw[hI,Z2 b1,Z2 b2,Z2 b3,Z2 b4,Z2 b5,ea]
       exact F8 ⟨hkn.2.2.1,hkn.2.2.2⟩ hkn.2.1 (fun k hk=>(hK k hk).1) (by omega) _ [] rfl
      ·rw[hS,Z2 b1,Z2 b2,Z2 b3,Z2 b4,Z2 b5,Me hkn.2.2.1 hkn.2.2.2]
       simp only[Z1]
       rw[show(⟨#[40]⟩:Z0)=ba [40] from rfl,bB (by simp only[Z4]; omega),ea]
       refine F9 hkn.2.1 (fun k hk=>(hK k hk).1) (fun pre ys hpy => ?_) hfn _ [] rfl
       have h1:=hcl pre
       have h2:(pre.map fun k=>(bO f n k 1).length).sum≤(x.2.2.2.2.2.1.map fun k=>(bO f n k 1).length).sum:=by
        rw[hpy,fs_,List.sum_append]
        omega
       have h3:=ae_ ac_ hpy
       rw[Z7] at h3
       omega
      ·rw[ea]
       simp only[Z7,aa_,bg_]
       omega
     ·rw[Z2 c6] at hok
      cases hok
    ·cases e
  ·cases e
theorem Hf (hl:f.length≤10000000) (hs : ∀ x∈f,x.2.2.1.2.2.1.size≤9223372036854775807) (hk : ∀ x∈f,x.2.2.2.2.2.1.length≤10000000) : ∃ t:ag,pk f=some ((ba t,()),())∧lP f=some ((ba t,()),())∧t.length≤200:=by
 rw[uZ,uW,kY hl hs hk,jo hl hs hk]
 simp only[Z1]
 cases ho:dJ f with
 | false=>exact⟨[],rfl,rfl,by simp⟩
 | true =>
  simp only[aj_,Z5,ad_]
  have ho':=ho
  unfold dJ at ho'
  rw[Z8] at ho'
  have hlen:=aH.1 ho'.1
  have ht:=ho'.2
  unfold pv at ht
  cases hc:dt f f.length ((f.length:Int) - 1) with
  | none=>rw[hc] at ht; cases ht
  | some p =>
   obtain⟨h1,h2⟩:=He (by omega) f.length ((f.length:Int) - 1) p.1 p.2 hc
   rw[wr (by omega) (by omega),(h1 1).1,(h1 0).2,F7]
   simp only[Z1,az]
   by_cases hb:(bO f f.length ((f.length:Int) - 1) 1).length > 200
   ·rw[aQ (by omega)]
    exact⟨[],rfl,rfl,by simp⟩
   ·rw[aL (by omega)]
    exact⟨_,rfl,rfl,by omega⟩
end
end Go.Proofs.YtipnjpfdlolhmaaGreatDoor.Abs
