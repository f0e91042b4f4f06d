/- Plain laws: whatever its state, the program's reader comes to an end, keeps what it has put and does not forget that it is bad. -/
import Derived.Test.YtnodjiikdgmeaaaGreatDoorZM6
import Derived.Lib.SplitLaws
set_option linter.unusedVariables false
set_option linter.unusedSimpArgs false
set_option linter.unusedSectionVars false
namespace Go.Proofs.YtnodjiikdgmeaaaGreatDoor.Abs
open Go
abbrev RI:=Option ((Int×Unit)×(p8×Unit))
def vF (x:aa):Bool:=decide (x.2.2.1.2.2.1.size≤100000) && decide (x.2.2.2.2.2.1.length≤100000)
def sm (ns:List aa):Bool:=ns.all vF
def gb (l:ak) (b:Bool) (ns:List aa) (F:RI):Prop :=
 ∃(i:Int) (l':ak) (b':Bool) (ns':List aa),F=some ((i,()),((ba l',ns',b',()),()))∧l' <:+ l∧(b=true→b'=true)∧ns <+: ns'∧ns'.length≤60∧(sm ns=true→sm ns'=true)
theorem gb.mono {l l0:ak} {b b0:Bool} {ns ns0:List aa} {F:RI} (h:gb l b ns F) (h1:l <:+ l0) (h2:b0=true→b=true) (h3:ns0 <+: ns) (h4:sm ns0=true→sm ns=true:=by exact id):gb l0 b0 ns0 F:=by
 obtain⟨i,l',b',ns',e,k1,k2,k3,k4,k5⟩:=h
 exact⟨i,l',b',ns',e,ah k1 h1,fun h=>k2 (h2 h),List.IsPrefix.trans h3 k3,k4,fun h=>k5 (h4 h)⟩
theorem nJ (l:ak):l <:+ l:=List.suffix_refl l
theorem eL {x:aa} {l:ak} {b:Bool} {ns:List aa} (hn:ns.length≤60) (hx:vF x=true:=by rfl):gb l b ns (aR x (ba l) b ns):=by
 obtain⟨i,h,_⟩:=Ca (x:=x) (l:=l) (b:=b) hn
 refine⟨i,l,_,_,h,nJ l,(fun hb=>by rw[hb]; rfl),?_,?_,?_⟩
 ·split
  ·exact⟨[x],rfl⟩
  ·exact List.prefix_refl _
 ·split
  ·rename_i h
   rw[List.length_append,List.length_singleton]
   omega
  ·exact hn
 ·intro hs
  split
  ·unfold sm at hs ⊢
   rw[List.all_append,hs]
   simp[hx]
  ·exact hs
theorem N4 {v:ab} (h:v.2.2.1.size≤100000):vF (nC v)=true:=by
 unfold vF
 rw[decide_eq_true h]
 rfl
theorem FN {op:Int} {y:List Int} (h:y.length≤100000):vF (6,op,(0,0,(⟨#[]⟩:ByteArray),()),((0,0,()),false,false,()),((0,0,()),false,false,()),y,())=true:=by
 unfold vF
 rw[Bool.and_eq_true]
 exact⟨rfl,decide_eq_true h⟩
theorem oa {v:ab} {r:ByteArray} {b:Bool} {ns:List aa}:bJ v r b ns=aR (nC v) r b ns:=by
 rw[zT]
 exact iR
theorem xO {i:Int} {l:ak} {b:Bool} {ns:List aa} (hn:ns.length≤60):gb l b ns (some ((i,()),((ba l,ns,true,()),()))) :=
 ⟨i,l,true,ns,rfl,nJ l,fun _=>rfl,List.prefix_refl _,hn,id⟩
theorem jI {l:ak} {c:UInt8} (h:l.head? = some c) : ∃ t,l=c :: t:=by
 cases l with
 | nil=>cases h
 | cons y t =>
  simp only[List.head?_cons,Option.some.injEq] at h
  exact⟨t,by rw[h]⟩
theorem nK {l:ak} {c:UInt8} (h:(bl l).head? = some c):((bl l).drop 1).length < l.length:=by
 have:=aF (au l)
 obtain⟨t,ht⟩:=jI h
 rw[ht] at this ⊢
 simp only[List.length_cons,List.drop_succ_cons,List.drop_zero] at this ⊢
 omega
theorem gy (l:ak):(bl l).drop 1 <:+ l:=ah (fx 1 _) (au l)
theorem Lp (l:ak):(bl l).dropWhile aX <:+ l:=ah (List.dropWhile_suffix _) (au l)
theorem GR (l:ak):(jH (bl l)).dropWhile aX <:+ l :=
 ah (List.dropWhile_suffix _) (ah (au _) (ah (fx 1 _) (ah (au _) (Lp l))))
section
variable {n:Nat} (HB : ∀ l:ak,l.length < n → ∀(deep least:Int) (b:Bool) (ns:List aa),0≤deep→deep+(l.length:Int)≤400→ns.length≤60→gb l b ns (bC least deep (ba l) b ns))
include HB
theorem Ih : ∀(m:Nat) (l:ak) (op deep:Int) (b:Bool) (kids:List Int) (ns:List aa),l.length=m→l.length < n→0≤deep→deep+1+(l.length:Int)≤400→kids.length+l.length≤10000→ns.length≤60→gb l b ns (cr op deep (ba l) b kids ns):=by
 intro m
 induction m using Nat.strongRecOn with
 | ind m ih =>
  intro l op deep b kids ns hm hln hd0 hd hk hn
  subst hm
  rw[kC]
  cases b with
  | true =>
   simp only[Bool.not_true,Bool.false_eq_true,if_false,iR]
   exact eL hn (FN (by omega))
  | false =>
   have tail : ∀(l2:ak) (b2:Bool) (ns2:List aa) (y:List Int),l2 <:+ l→ns <+: ns2→ns2.length≤60→y.length=kids.length+1→(sm ns=true→sm ns2=true) →
     gb l false ns ((bz (⟨#[44]⟩:ByteArray) (ba l2) b2 ns2).bind fun z3=>(if(!z3.1.1)=true then(if z3.2.1.2.2.1=true then((aR (6,op,(0,0,(⟨#[]⟩:ByteArray),()),((0,0,()),false,false,()),((0,0,()),false,false,()),y,()) z3.2.1.1 true z3.2.1.2.1).bind fun z4=>(some ((z4.1.1,()),(z4.2.1,())))) else((bz (⟨#[41]⟩:ByteArray) z3.2.1.1 z3.2.1.2.2.1 z3.2.1.2.1).bind fun z5=>((aR (6,op,(0,0,(⟨#[]⟩:ByteArray),()),((0,0,()),false,false,()),((0,0,()),false,false,()),y,()) z5.2.1.1 (!z5.1.1) z5.2.1.2.1).bind fun z6=>(some ((z6.1.1,()),(z6.2.1,())))))) else(cr op deep z3.2.1.1 z3.2.1.2.2.1 y z3.2.1.2.1))):=by
    intro l2 b2 ns2 y hs hp hn2 hy hsm
    have hl2:=aF hs
    rw[show(⟨#[44]⟩:ByteArray)=ba [44] from rfl,dT (by omega)]
    simp only[Option.bind_some,mY (c:=44) (.inr (.inr (.inr (.inl rfl)))),iR,List.length_singleton]
    by_cases hc:(bl l2).head? = some 44
    ·have hlt:=nK hc
     simp only[hc,decide_true,Bool.not_true,Bool.false_eq_true,if_false,if_true]
     exact(ih _ (by omega) _ op deep b2 y ns2 rfl (by omega) hd0 (by omega) (by omega) hn2).mono (ah (gy l2) hs) (fun h=>by cases h) hp hsm
    ·simp only[hc,decide_false,Bool.not_false,if_true,if_false]
     have hbl:=aF (au l2)
     cases b2 with
     | true =>
      simp only[if_true]
      exact(eL hn2 (FN (by omega))).mono (ah (au l2) hs) (fun h=>by cases h) hp hsm
     | false =>
      simp only[Bool.false_eq_true,if_false]
      rw[show(⟨#[41]⟩:ByteArray)=ba [41] from rfl,dT (by omega)]
      simp only[Option.bind_some,iR]
      refine(eL hn2 (FN (by omega))).mono ?_ (fun h=>by cases h) hp hsm
      split
      ·exact ah (ah (fx _ _) (au _)) (ah (au l2) hs)
      ·exact ah (au _) (ah (au l2) hs)
   simp only[Bool.not_false,if_true]
   rw[Lo (by omega)]
   by_cases ha:Ig (bl l)=true
   ·rw[if_pos ha]
    simp only[Option.bind_some,if_true]
    obtain⟨i2,l2,b2,ns2,h2,k1,k2,k3,k4,k5⟩:=eL (x:=nA (cG ((bl l).takeWhile aX)).1 (cG ((jH (bl l)).takeWhile aX)).1) (l:=(jH (bl l)).dropWhile aX) (b:=(false || !(cG ((jH (bl l)).takeWhile aX)).2)) hn
    rw[h2]
    simp only[Option.bind_some]
    rw[bv (by simp only[List.length_singleton]; omega)]
    exact tail _ _ _ _ (ah k1 (GR l)) k3 k4 (by simp) k5
   ·rw[if_neg ha]
    simp only[Option.bind_some,Bool.false_eq_true,if_false]
    rw[wr (by omega) (by omega)]
    obtain⟨i2,l2,b2,ns2,h2,k1,k2,k3,k4,k5⟩:=HB l hln (deep+1) 1 false ns (by omega) hd hn
    rw[h2]
    simp only[Option.bind_some]
    rw[bv (by simp only[List.length_singleton]; omega)]
    exact tail _ _ _ _ k1 k3 k4 (by simp) k5
theorem TM {l:ak} {op deep:Int} {b:Bool} {ns:List aa} (hln:l.length < n) (hd0:0≤deep) (hd:deep+1+(l.length:Int)≤400) (hn:ns.length≤60):gb l b ns (gV op deep (ba l) b ns):=by
 rw[vh]
 cases b with
 | true =>
  rw[if_pos rfl,A1]
  simp only[Bool.not_true,Bool.false_eq_true,if_false,iR]
  exact eL hn (FN (by simp))
 | false =>
  rw[if_neg (by decide),show(⟨#[40]⟩:ByteArray)=ba [40] from rfl,dT (by omega)]
  simp only[Option.bind_some]
  have hs:(if sg (bl l)=[40] then(bl l).drop ([40]:ak).length else bl l) <:+ l:=by
   split
   ·exact gy l
   ·exact au l
  have:=aF hs
  exact(Ih HB _ _ op deep _ [] ns rfl (by omega) hd0 (by omega) (by simp only[List.length_nil]; omega) hn).mono hs (fun h=>by cases h) (List.prefix_refl _)
theorem TN {deep:Int} {w r:ak} {b:Bool} {ns:List aa} (hln:mZ.find? (fun k=>decide (fO k=w))≠none→r.length < n∧deep+1+(r.length:Int)≤400) (hd0:0≤deep) (hn:ns.length≤60):gb r b ns (hJ deep w r b ns):=by
 unfold hJ
 split
 ·rename_i hc
  rw[oa]
  exact eL hn (N4 (Nat.le_trans (et (qn hc.1).1) (by decide)))
 ·split
  ·exact eL hn
  ·cases hf:mZ.find? (fun k=>decide (fO k=w)) with
   | some k =>
    obtain⟨h1,h2⟩:=hln (by rw[hf]; simp)
    exact TM HB h1 hd0 h2 hn
   | none=>exact xO hn
end
theorem N5 {w:ak} (h:mZ.find? (fun k=>decide (fO k=w))≠none) : ∃ k,mZ.find? (fun k=>decide (fO k=w))=some k∧fO k=w∧k∈mZ∧w≠[]:=by
 cases hf:mZ.find? (fun k=>decide (fO k=w)) with
 | none=>exact absurd hf h
 | some k =>
  have h1:=List.find?_some hf
  have h2:=List.mem_of_find?_eq_some hf
  have h3:fO k=w:=by simpa using h1
  refine⟨k,rfl,h3,h2,?_⟩
  have : ∀ k∈mZ,fO k≠[]:=by decide
  rw[←h3]
  exact this k h2
theorem N6 {l:ak} (h:(bl l).takeWhile aX≠[]):((bl l).dropWhile aX).length < l.length:=by
 have h1:=aF (au l)
 have h2:=congrArg List.length (List.takeWhile_append_dropWhile (p:=aX) (l:=bl l))
 rw[List.length_append] at h2
 have h3:=List.length_pos_iff.2 h
 omega
theorem PV {l:ak} {b:Bool} {ns:List aa} (hl:l.length≤900) (hn:ns.length≤60):gb (34 :: l) b ns (jr (ba (34 :: l)) b ns):=by
 rw[FL hl]
 cases hq:qt l with
 | none=>exact xO hn
 | some p =>
  obtain⟨h1,h2,_⟩:=RR l p.1 p.2 hq
  show gb _ b ns (bJ _ _ b ns)
  rw[oa]
  refine(eL hn (N4 ?_)).mono (ah h1 ⟨[34],rfl⟩) id (List.prefix_refl _)
  show(ba ([]++p.1)).size≤_
  rw[aN]
  simp only[List.nil_append]
  omega
theorem Ii (l:ak):(bl (35 :: l)).takeWhile aX=[]∧(bl (35 :: l)).dropWhile aX=35 :: l:=by
 have h1:bl (35 :: l)=35 :: l:=List.dropWhile_cons_of_neg (by decide)
 rw[h1]
 exact⟨List.takeWhile_cons_of_neg (by decide),List.dropWhile_cons_of_neg (by decide)⟩
theorem N7 {deep:Int} {l:ak} {b:Bool} {ns:List aa} (hl:l.length≤800):dt deep 1 (ba (35 :: l)) b ns=match xM.find? (xN l) with
  | some n=>bJ (vE n) (ba (l.drop (n9 n).length)) b ns
  | none=>some ((-1,()),((ba (35 :: l),ns,true,()),())):=by
 have h:=Ic (deep:=deep) (l:=l) (b:=b) (ns:=ns) (by omega) xM [] rfl
 have h:dt deep 1 (ba (35 :: l)) b ns=_:=h
 rw[h]
 cases xM.find? (xN l) with
 | some n=>rfl
 | none =>
  simp only
  rw[Wp (by rw[List.length_cons]; omega),(Ii l).1,(Ii l).2]
  have e1 : ¬((bo []).2=true∧((bo []).1.1=1∨(bo []).1.1=3)):=by decide +kernel
  have e2 : ¬(cG []).2=true:=by decide +kernel
  have e3:mZ.find? (fun k=>decide (fO k=[]))=none:=by decide +kernel
  unfold hJ
  rw[if_neg e1,if_neg e2,e3]
theorem TO {l:ak} (HB : ∀ l':ak,l'.length < l.length → ∀(deep least:Int) (b:Bool) (ns:List aa),0≤deep→deep+(l'.length:Int)≤400→ns.length≤60→gb l' b ns (bC least deep (ba l') b ns))
  {deep:Int} {b:Bool} {ns:List aa} (hd0:0≤deep) (hd:deep+(l.length:Int)≤400) (hn:ns.length≤60):gb l b ns (oV deep (ba l) b ns):=by
 have hbl:=aF (au l)
 rw[Lm (by omega)]
 by_cases c1:(bl l).head? = some 34
 ·rw[if_pos c1]
  obtain⟨t,ht⟩:=jI c1
  have htl:t.length+1=(bl l).length:=by rw[ht]; simp
  rw[ht]
  exact(PV (by omega) hn).mono (by rw[←ht]; exact au l) id (List.prefix_refl _)
 ·rw[if_neg c1]
  by_cases c2:(bl l).head? = some 35
  ·rw[if_pos c2]
   obtain⟨t,ht⟩:=jI c2
   have htl:t.length+1=(bl l).length:=by rw[ht]; simp
   have hts:t <:+ l:=ah ⟨[35],by rw[ht]; rfl⟩ (au l)
   rw[ht,N7 (by omega)]
   cases xM.find? (xN t) with
   | some n =>
    simp only
    rw[oa]
    exact(eL hn (N4 (by show eS.size≤_; decide))).mono (ah (fx _ _) hts) id (List.prefix_refl _)
   | none=>exact(xO hn).mono (by rw[←ht]; exact au l) id (List.prefix_refl _)
  ·rw[if_neg c2]
   by_cases c3:(bl l).head? = some 40
   ·rw[if_pos c3]
    have hlt:=nK c3
    rw[wr (by omega) (by omega)]
    obtain⟨i2,l2,b2,ns2,h2,k1,k2,k3,k4,k5⟩:=HB _ hlt (deep+1) 1 b ns (by omega) (by omega) hn
    rw[h2]
    simp only[Option.bind_some]
    have hl2:=aF k1
    have hs2:l2 <:+ l:=ah k1 (gy l)
    cases b2 with
    | true =>
     simp only[if_true]
     exact⟨i2,l2,true,ns2,rfl,hs2,fun _=>rfl,k3,k4,k5⟩
    | false =>
     simp only[Bool.false_eq_true,if_false]
     rw[show(⟨#[41]⟩:ByteArray)=ba [41] from rfl,dT (by omega)]
     simp only[Option.bind_some]
     refine⟨i2,_,_,ns2,rfl,?_,(fun h=>by have:=k2 h; cases this),k3,k4,k5⟩
     split
     ·exact ah (ah (fx _ _) (au _)) hs2
     ·exact ah (au _) hs2
   ·rw[if_neg c3]
    refine(TN HB (fun h => ?_) hd0 hn).mono (Lp l) id (List.prefix_refl _)
    obtain⟨k,_,_,_,hw⟩:=N5 h
    have:=N6 hw
    omega
theorem R0 : ∀(m:Nat) (l:ak),l.length=m→(∀ l':ak,l'.length < l.length → ∀(deep least:Int) (b:Bool) (ns:List aa),0≤deep→deep+(l'.length:Int)≤400→ns.length≤60→gb l' b ns (bC least deep (ba l') b ns)) →
  ∀(deep:Int) (b:Bool) (ns:List aa),0≤deep→deep+(l.length:Int)≤400→ns.length≤60→gb l b ns (j8 deep (ba l) b ns):=by
 intro m
 induction m using Nat.strongRecOn with
 | ind m ih =>
  intro l hm HB deep b ns hd0 hd hn
  subst hm
  rw[tY,aw (by omega)]
  cases b with
  | true =>
   simp only[if_true]
   exact xO hn
  | false =>
   simp only[Bool.false_eq_true,if_false,iR]
   rw[show(⟨#[45]⟩:ByteArray)=ba [45] from rfl,dT (by omega)]
   simp only[Option.bind_some,mY (c:=45) (.inl rfl),List.length_singleton]
   have hbl:=aF (au l)
   by_cases hc:(bl l).head? = some 45
   ·have hlt:=nK hc
    simp only[hc,decide_true,if_true]
    rw[wr (by omega) (by omega)]
    obtain⟨i2,l2,b2,ns2,h2,k1,k2,k3,k4,k5⟩:=ih _ hlt _ rfl (fun l' h'=>HB l' (by omega)) (deep+1) false ns (by omega) (by omega) hn
    rw[h2]
    simp only[Option.bind_some]
    exact(eL k4).mono (ah k1 (gy l)) (fun h=>by cases h) k3 k5
   ·simp only[hc,decide_false,Bool.false_eq_true,if_false]
    exact(TO (l:=bl l) (fun l' h'=>HB l' (by omega)) hd0 (by omega) hn).mono (au l) id (List.prefix_refl _)
theorem GS {least deep left:Int} {op:Int} {l:ak} {ns:List aa} (ho:0≤op) (ho2:op≤11) (hl:l.length≤900) (hs:op≠0→sg (bl l)=ey op):cd least deep left op 12 (ba l) false ns =
  if op=0∨dx op < least then some ((left,()),((ba l,ns,false,()),()))
  else((bC (dx op+1) deep (ba ((bl l).drop (ey op).length)) false ns).bind fun z7=>((aR (5,op,(0,0,(⟨#[]⟩:ByteArray),()),((0,0,()),false,false,()),((0,0,()),false,false,()),([left,z7.1.1]:(List Int)),()) z7.2.1.1 z7.2.1.2.2.1 z7.2.1.2.1).bind fun z8=>(eZ least deep z8.1.1 z8.2.1.1 z8.2.1.2.2.1 z8.2.1.2.1))):=by
 rw[pq,aw (by decide)]
 by_cases h0:op=0
 ·rw[if_pos (by rw[h0]; rfl),if_pos (.inl h0)]
 ·have h0' : ¬(op == 0)=true:=by simpa using h0
  have hlv:1≤dx op∧dx op≤4:=by
   unfold dx
   repeat' split
   all_goals omega
  rw[if_neg h0',Ia (by omega) ho2]
  simp only[Option.bind_some]
  by_cases h1:dx op < least
  ·rw[az h1,if_pos (.inr h1)]
  ·rw[aw h1,if_neg (by omega),zg ho ho2]
   simp only[Option.bind_some]
   rw[dT (by omega),hs h0]
   simp only[Option.bind_some,if_true]
   rw[wr (by omega) (by omega)]
theorem Lq {l:ak} (h:fz (bl l)≠0):((bl l).drop (ey (fz (bl l))).length).length < l.length:=by
 have h1:=aF (au l)
 have h2:=zf h
 have h3:=B9 (K9 (bl l))
 have h4:1≤(ey (fz (bl l))).length:=by
  have:=rJ (bl l)
  have h5 : ∀ k:Fin 12,k.val≠0→1≤(ey (k.val:Int)).length:=by decide
  have:=h5 ⟨(fz (bl l)).toNat,by omega⟩ (by simp only; omega)
  simp only[Int.toNat_of_nonneg (rJ (bl l)).1] at this
  exact this
 rw[h2] at h3
 rw[List.length_drop]
 omega
theorem zk : ∀(m:Nat) (l:ak),l.length=m→(∀ l':ak,l'.length < l.length → ∀(deep least:Int) (b:Bool) (ns:List aa),0≤deep→deep+(l'.length:Int)≤400→ns.length≤60→gb l' b ns (bC least deep (ba l') b ns)) →
  ∀(least deep left:Int) (b:Bool) (ns:List aa),0≤deep→deep+(l.length:Int)≤400→ns.length≤60→gb l b ns (eZ least deep left (ba l) b ns):=by
 intro m
 induction m using Nat.strongRecOn with
 | ind m ih =>
  intro l hm HB least deep left b ns hd0 hd hn
  subst hm
  rw[jW]
  cases b with
  | true=>exact xO hn
  | false =>
   simp only[Bool.not_false,if_true]
   have hbl:=aF (au l)
   obtain⟨o1,o2⟩:=rJ (bl l)
   rw[DV (by omega),GS o1 o2 (by omega) (fun h=>by rw[dz]; exact zf h),dz]
   split
   ·exact⟨left,bl l,false,ns,rfl,au l,fun h=>h,List.prefix_refl _,hn,id⟩
   ·rename_i hop
    have hop':fz (bl l)≠0:=fun e=>hop (.inl e)
    have hlt:=Lq hop'
    obtain⟨i2,l2,b2,ns2,h2,k1,k2,k3,k4,k5⟩:=HB _ hlt deep (dx (fz (bl l))+1) false ns hd0 (by omega) hn
    rw[h2]
    simp only[Option.bind_some]
    obtain⟨i3,l3,b3,ns3,h3,j1,j2,j3,j4,j5⟩:=eL (x:=(5,fz (bl l),(0,0,(⟨#[]⟩:ByteArray),()),((0,0,()),false,false,()),((0,0,()),false,false,()),([left,i2]:(List Int)),())) (l:=l2) (b:=b2) k4
    rw[h3]
    simp only[Option.bind_some]
    have hs2:=aF k1
    have hs3:=aF j1
    exact(ih _ (by omega) l3 rfl (fun l' h'=>HB l' (by omega)) least deep i3 b3 ns3 hd0 (by omega) j4).mono (ah j1 (ah k1 (ah (fx _ _) (au l)))) (fun h=>by cases h) (List.IsPrefix.trans k3 j3) (fun h=>j5 (k5 h))
theorem PW : ∀(m:Nat) (l:ak),l.length=m → ∀(deep least:Int) (b:Bool) (ns:List aa),0≤deep→deep+(l.length:Int)≤400→ns.length≤60→gb l b ns (bC least deep (ba l) b ns):=by
 intro m
 induction m using Nat.strongRecOn with
 | ind m ih =>
  intro l hm deep least b ns hd0 hd hn
  subst hm
  have HB : ∀ l':ak,l'.length < l.length → ∀(deep least:Int) (b:Bool) (ns:List aa),0≤deep→deep+(l'.length:Int)≤400→ns.length≤60→gb l' b ns (bC least deep (ba l') b ns) :=
   fun l' h' deep least b ns d0 d1 hn=>ih _ h' l' rfl deep least b ns d0 d1 hn
  rw[se]
  obtain⟨i2,l2,b2,ns2,h2,k1,k2,k3,k4,k5⟩:=R0 _ l rfl HB deep b ns hd0 hd hn
  rw[h2]
  simp only[Option.bind_some]
  have hs2:=aF k1
  exact(zk _ l2 rfl (fun l' h'=>HB l' (by omega)) least deep i2 b2 ns2 hd0 (by omega) k4).mono k1 k2 k3 k5
abbrev RS:=Option ((Int×Unit)×(ko×Unit))
def de (ns:List aa):Bool:=ns.all du
theorem R3 {ns ns':List aa} (h:ns <+: ns') (k:de ns=false):de ns'=false:=by
 obtain⟨r,rfl⟩:=h
 unfold de at k ⊢
 rw[List.all_append,k]
 rfl
def Dm (b:Bool) (ns:List aa):Prop:=(b=true∨de ns=false)∧sm ns=true
theorem R4 {x:aa} (h:du x=true):vF x=true:=by
 have:x.2.2.1.2.2.1.size≤100000∧x.2.2.2.2.2.1.length≤100000:=by
  unfold du kl at h
  split at h
  ·simp only[Bool.and_eq_true,decide_eq_true_eq] at h
   have:=et h.1.1.2
   omega
  ·split at h
   ·simp only[Bool.and_eq_true,decide_eq_true_eq] at h
    rw[h.1.1.1.2]
    exact⟨by decide,by omega⟩
   ·split at h
    ·simp only[Bool.and_eq_true,decide_eq_true_eq] at h
     rw[h.1.1.2]
     exact⟨by decide,by omega⟩
    ·split at h
     ·simp only[Bool.and_eq_true,decide_eq_true_eq] at h
      rw[h.1.1.1.2]
      exact⟨by decide,by omega⟩
     ·split at h
      ·simp only[Bool.and_eq_true,decide_eq_true_eq] at h
       rw[h.1.1.1.2]
       exact⟨by decide,by omega⟩
      ·split at h
       ·simp only[Bool.and_eq_true,decide_eq_true_eq] at h
        rw[h.1.1.2]
        refine⟨by decide,?_⟩
        have h2:=h.1.1.1
        unfold mX at h2
        split at h2
        ·simp only[Bool.or_eq_true,decide_eq_true_eq] at h2
         omega
        ·split at h2
         ·have:=bA.1 h2
          omega
         ·split at h2
          ·simp only[decide_eq_true_eq] at h2
           omega
          ·cases h2
       ·cases h
 unfold vF
 rw[decide_eq_true this.1,decide_eq_true this.2]
 rfl
theorem uv {ns:List aa} (h:de ns=true):sm ns=true:=by
 unfold de at h
 unfold sm
 rw[List.all_eq_true] at h ⊢
 exact fun x hx=>R4 (h x hx)
theorem FO {ns:List aa} (h:de ns=true):Dm true ns:=⟨.inl rfl,uv h⟩
theorem gb.dm {l:ak} {b:Bool} {ns:List aa} {F:RI} (h:gb l b ns F) (hd:Dm b ns) : ∃(i:Int) (l':ak) (b':Bool) (ns':List aa),F=some ((i,()),((ba l',ns',b',()),()))∧l' <:+ l∧Dm b' ns'∧ns'.length≤60:=by
 obtain⟨i,l',b',ns',e,k1,k2,k3,k4,k5⟩:=h
 exact⟨i,l',b',ns',e,k1,⟨hd.1.elim (fun h => .inl (k2 h)) (fun h => .inr (R3 k3 h)),k5 hd.2⟩,k4⟩
def m5 (s m:ak) (L:Int) (F:RI) (G:RS):Prop :=
 (∃(i:Int) (l1 l2:ak) (ns:List aa),F=some ((i,()),((ba l1,ns,false,()),()))∧G=some ((i,()),((ba s,bF s l2,false,ns,()),()))∧bl l1=bl l2∧l1 <:+ m∧l2 <:+ m∧de ns=true∧ns.length≤60∧(fz (bl l1)=0∨dx (fz (bl l1)) < L))
 ∨ (∃(i:Int) (l1:ak) (b1:Bool) (ns1:List aa) (j:Int) (l2:ak) (ns2:List aa),F=some ((i,()),((ba l1,ns1,b1,()),()))∧Dm b1 ns1∧l1 <:+ m∧ns1.length≤60∧G=some ((j,()),((ba s,bF s l2,true,ns2,()),()))∧l2 <:+ s∧ns2.length≤61+m.length)
theorem PX (k:Int):dx k < 5:=by
 unfold dx
 repeat' split
 all_goals omega
theorem m5.mono {s m m':ak} {L:Int} {F:RI} {G:RS} (h:m5 s m L F G) (hm:m <:+ m'):m5 s m' L F G:=by
 have:=aF hm
 rcases h with⟨i,l1,l2,ns,e1,e2,h1,h2,h3,h4,h5,h6⟩ | ⟨i,l1,b1,ns1,j,l2,ns2,e1,h1,h2,h3,e2,h4,h5⟩
 ·exact .inl ⟨i,l1,l2,ns,e1,e2,h1,ah h2 hm,ah h3 hm,h4,h5,h6⟩
 ·exact .inr ⟨i,l1,b1,ns1,j,l2,ns2,e1,h1,ah h2 hm,h3,e2,h4,by omega⟩
theorem N8 {ns:List aa} {x:aa} (h:sm ns=true) (hx:vF x=true):sm (ns++[x])=true:=by
 unfold sm at h ⊢
 rw[List.all_append,h]
 simp[hx]
theorem Lr {x:aa} (h:vF x=true):x.2.2.1.2.2.1.size≤9223372036854775807:=by
 unfold vF at h
 rw[Bool.and_eq_true,decide_eq_true_eq] at h
 exact Nat.le_trans h.1 (by decide)
theorem qp {s m l1 l2:ak} {x:aa} {ns:List aa} (hsx:vF x=true) (h1:bl l1=bl l2) (k1:l1 <:+ m) (k2:l2 <:+ m) (hms:m <:+ s) (ho:de ns=true) (hn:ns.length≤60) :
  m5 s m 5 (aR x (ba l1) false ns) (bT x (ba s) (bF s l2) false ns):=by
 have hx:=Lr hsx
 obtain⟨i,e,hi⟩:=Ca (x:=x) (l:=l1) (b:=false) hn
 rw[e,GO (by omega) hx]
 by_cases hlt:ns.length < 60
 ·have hi:=hi rfl hlt
  subst hi
  have d60:decide (60≤ns.length)=false:=decide_eq_false (by omega)
  rw[d60,if_pos ⟨rfl,hlt⟩]
  simp only[Bool.false_or]
  cases hk:du x with
  | true =>
   refine .inl ⟨_,l1,l2,ns++[x],rfl,rfl,h1,k1,k2,?_,?_,.inr (PX _)⟩
   ·unfold de at ho ⊢
    rw[List.all_append,ho]
    simp[hk]
   ·rw[List.length_append,List.length_singleton]; omega
  | false =>
   refine .inr ⟨_,l1,false,ns++[x],(ns.length:Int),l2,ns++[x],rfl,⟨.inr ?_,N8 (uv ho) hsx⟩,k1,?_,rfl,ah k2 hms,?_⟩
   ·unfold de
    rw[List.all_append]
    simp[hk]
   ·rw[List.length_append,List.length_singleton]; omega
   ·rw[List.length_append,List.length_singleton]; omega
 ·have d60:decide (60≤ns.length)=true:=decide_eq_true (by omega)
  rw[d60,if_neg (by omega)]
  refine .inr ⟨i,l1,true,ns,(ns.length:Int),l2,ns++[x],rfl,FO ho,k1,hn,?_,ah k2 hms,?_⟩
  ·simp
  ·rw[List.length_append,List.length_singleton]; omega
theorem Ls {s:ak} {a:Int} {x:aa} {ns:List aa} (hn:ns.length≤1000) (hx:x.2.2.1.2.2.1.size≤9223372036854775807):bT x (ba s) a true ns=some (((ns.length:Int),()),((ba s,a,true,ns++[x],()),())):=by
 rw[GO hn hx]
 rfl
theorem PY {op:Int} {s:ByteArray} {a:Int} {b:Bool} {ns:List aa} {kids:List Int}:rR op s a b ns kids=cN op s a b kids ns:=by
 rw[DH,mB]
theorem Ij {op:Int} {s:ByteArray} {a:Int} {ns:List aa} {kids:List Int}:cN op s a true kids ns=some ((0,()),((s,a,true,ns,()),())):=by
 rw[mB]
 rfl
abbrev nF (op:Int) (kids:List Int):aa:=(6,op,(0,0,(⟨#[]⟩:ByteArray),()),((0,0,()),false,false,()),((0,0,()),false,false,()),kids,())
noncomputable def zl (op deep:Int) (y:List Int) (r:ByteArray) (b:Bool) (ns:List aa):RI :=
 (bz (⟨#[44]⟩:ByteArray) r b ns).bind fun z3=>(if(!z3.1.1)=true then(if z3.2.1.2.2.1=true then((aR (nF op y) z3.2.1.1 true z3.2.1.2.1).bind fun z4=>(some ((z4.1.1,()),(z4.2.1,())))) else((bz (⟨#[41]⟩:ByteArray) z3.2.1.1 z3.2.1.2.2.1 z3.2.1.2.1).bind fun z5=>((aR (nF op y) z5.2.1.1 (!z5.1.1) z5.2.1.2.1).bind fun z6=>(some ((z6.1.1,()),(z6.2.1,())))))) else(cr op deep z3.2.1.1 z3.2.1.2.2.1 y z3.2.1.2.1))
theorem MT {op deep:Int} {l:ak} {kids:List Int} {ns:List aa} (hl:l.length≤900):cr op deep (ba l) false kids ns =
  if Ig (bl l)=true then(aR (nA (cG ((bl l).takeWhile aX)).1 (cG ((jH (bl l)).takeWhile aX)).1) (ba ((jH (bl l)).dropWhile aX)) (!(cG ((jH (bl l)).takeWhile aX)).2) ns).bind fun z2=>(app kids ([z2.1.1]:(List Int)) 8 fun y1=>zl op deep y1 z2.2.1.1 z2.2.1.2.2.1 z2.2.1.2.1)
  else(bC 1 (IntKind.i64.wrap (deep+1)) (ba l) false ns).bind fun z7=>(app kids ([z7.1.1]:(List Int)) 8 fun y2=>zl op deep y2 z7.2.1.1 z7.2.1.2.2.1 z7.2.1.2.1):=by
 rw[kC]
 simp only[Bool.not_false,if_true]
 rw[Lo hl]
 by_cases ha:Ig (bl l)=true
 ·rw[if_pos ha,if_pos ha]
  simp only[Option.bind_some,if_true,Bool.false_or]
  rfl
 ·rw[if_neg ha,if_neg ha]
  simp only[Option.bind_some,Bool.false_eq_true,if_false]
  rfl
theorem Cc : ∀(l:ak),∀(deep least:Int) (b:Bool) (ns:List aa),0≤deep→deep+(l.length:Int)≤400→ns.length≤60→gb l b ns (bC least deep (ba l) b ns):=fun l=>PW _ l rfl
theorem zm {op deep:Int} {y:List Int} {l:ak} {b:Bool} {ns:List aa} (hd0:0≤deep) (hd:deep+1+(l.length:Int)≤400) (hy:y.length+l.length≤9000) (hn:ns.length≤60):gb l b ns (zl op deep y (ba l) b ns):=by
 have hbl:=aF (au l)
 unfold zl
 rw[show(⟨#[44]⟩:ByteArray)=ba [44] from rfl,dT (by omega)]
 simp only[Option.bind_some,iR]
 by_cases hc:sg (bl l)=[44]
 ·have hc':(bl l).head? = some 44:=by rw[←mY (c:=44) (.inr (.inr (.inr (.inl rfl))))]; exact hc
  have hlt:=nK hc'
  simp only[hc,decide_true,Bool.not_true,Bool.false_eq_true,if_false,if_true,List.length_singleton]
  exact(Ih (n:=l.length+1) (fun l' _ deep least b ns d0 d1 hn=>Cc l' deep least b ns d0 d1 hn) _ _ op deep b y ns rfl (by omega) hd0 (by omega) (by omega) hn).mono (gy l) id (List.prefix_refl _)
 ·simp only[hc,decide_false,Bool.not_false,if_true,if_false]
  cases b with
  | true =>
   simp only[if_true]
   exact(eL hn (FN (by omega))).mono (au l) (fun _=>rfl) (List.prefix_refl _)
  | false =>
   simp only[Bool.false_eq_true,if_false]
   rw[show(⟨#[41]⟩:ByteArray)=ba [41] from rfl,dT (by omega)]
   simp only[Option.bind_some,iR]
   refine(eL hn (FN (by omega))).mono ?_ (fun h=>by cases h) (List.prefix_refl _)
   split
   ·exact ah (ah (fx _ _) (au _)) (au l)
   ·exact ah (au _) (au l)
noncomputable def Cd (op:Int) (y:List Int) (s:ByteArray) (a:Int) (b:Bool) (ns:List aa):RS :=
 (dB (⟨#[41]⟩:ByteArray) s a b ns).bind fun z2=>(if z2.1.1=true then((bT (nF op y) z2.2.1.1 z2.2.1.2.1 z2.2.1.2.2.1 z2.2.1.2.2.2.1).bind fun z3=>(some ((z3.1.1,()),(z3.2.1,())))) else((dB (⟨#[44]⟩:ByteArray) z2.2.1.1 z2.2.1.2.1 z2.2.1.2.2.1 z2.2.1.2.2.2.1).bind fun z4=>(if(!z4.1.1)=true then(cN op z4.2.1.1 z4.2.1.2.1 true y z4.2.1.2.2.2.1) else(cN op z4.2.1.1 z4.2.1.2.1 z4.2.1.2.2.1 y z4.2.1.2.2.2.1))))
theorem vG {op:Int} {y:List Int} {s l:ak} {ns:List aa} (hs:s.length≤900) (h:l <:+ s) : ∃ l',l' <:+ s∧Cd op y (ba s) (bF s l) true ns=some ((0,()),((ba s,bF s l',true,ns,()),())):=by
 unfold Cd
 rw[show(⟨#[41]⟩:ByteArray)=ba [41] from rfl,hH (by omega) (by decide) h]
 simp only[Option.bind_some,Bool.not_true,Bool.false_and,Bool.false_eq_true,if_false]
 rw[show(⟨#[44]⟩:ByteArray)=ba [44] from rfl,hH (by omega) (by decide) (ah (au l) h)]
 simp only[Option.bind_some,Bool.not_true,Bool.false_and,Bool.false_eq_true,if_false,Bool.not_false,if_true]
 exact⟨bl (bl l),ah (au _) (ah (au l) h),Ij⟩
theorem MU {op:Int} {s l:ak} {kids:List Int} {ns:List aa}:cN op (ba s) (bF s l) false kids ns=(rf (ba s) (bF s l) false ns).bind fun z1=>(app kids ([z1.1.1]:(List Int)) 8 fun y1=>Cd op y1 z1.2.1.1 z1.2.1.2.1 z1.2.1.2.2.1 z1.2.1.2.2.2.1):=by
 rw[mB]
 rfl
theorem Va {s l:ak} {ns:List aa} (hs:s.length≤900) (h:l <:+ s):rf (ba s) (bF s l) false ns =
  if Ig (bl l)=true then(if(cG ((jH (bl l)).takeWhile aX)).2=true then bT (nA (cG ((bl l).takeWhile aX)).1 (cG ((jH (bl l)).takeWhile aX)).1) (ba s) (bF s ((jH (bl l)).dropWhile aX)) false ns
   else some ((0,()),((ba s,bF s ((jH (bl l)).dropWhile aX),true,ns,()),())))
  else eF 1 (ba s) (bF s (bl l)) false ns:=by
 have hm:=ah (au l) h
 have hr:=ah (Lp l) h
 have hsl:=aF h
 have h1:=aF (au l)
 have h2:=lL aX (bl l)
 have h3:=aF (GR l)
 rw[Kn,Lb (by omega) h]
 simp only[Option.bind_some]
 rw[DW (by omega) hm]
 simp only[Option.bind_some]
 rw[rX (by omega)]
 simp only[Option.bind_some]
 unfold Ig
 cases hp:(cG ((bl l).takeWhile aX)).2 with
 | false=>simp only[Bool.false_and,Bool.false_eq_true,if_false,ga]
 | true =>
  simp only[if_true,Bool.true_and]
  rw[show(⟨#[58]⟩:ByteArray)=ba [58] from rfl,hH (by omega) (by decide) hr]
  simp only[Option.bind_some,Bool.not_false,Bool.true_and,DL]
  by_cases hc:(bl ((bl l).dropWhile aX)).head? = some 58
  ·simp only[hc,decide_true,if_true,List.length_singleton]
   have hq:(bl ((bl l).dropWhile aX)).drop 1 <:+ s:=ah (gy _) hr
   rw[Lb (by omega) hq]
   simp only[Option.bind_some]
   have hq2:jH (bl l) <:+ s:=ah (au _) hq
   rw[show bl ((bl ((bl l).dropWhile aX)).drop 1)=jH (bl l) from rfl,DW (by omega) hq2]
   simp only[Option.bind_some]
   have h4:=lL aX (jH (bl l))
   have h5:=aF hq2
   rw[rX (by omega)]
   simp only[Option.bind_some,ga]
   cases (cG ((jH (bl l)).takeWhile aX)).2 <;> simp
  ·simp only[hc,decide_false,Bool.false_eq_true,if_false,ga]
theorem qq {s m m':ak} {L L':Int} {F:RI} {G:RS} {K:(Int×Unit)×(p8×Unit)→RI} {K':(Int×Unit)×(ko×Unit)→RS} (h:m5 s m L F G)
  (hg : ∀(i:Int) (l1 l2:ak) (ns:List aa),bl l1=bl l2→l1 <:+ m→l2 <:+ m→de ns=true→ns.length≤60→(fz (bl l1)=0∨dx (fz (bl l1)) < L)→m5 s m' L' (K ((i,()),((ba l1,ns,false,()),()))) (K' ((i,()),((ba s,bF s l2,false,ns,()),()))))
  (hd : ∀(i:Int) (l1:ak) (b1:Bool) (ns1:List aa) (j:Int) (l2:ak) (ns2:List aa),Dm b1 ns1→l1 <:+ m→ns1.length≤60→l2 <:+ s→ns2.length≤61+m.length→m5 s m' L' (K ((i,()),((ba l1,ns1,b1,()),()))) (K' ((j,()),((ba s,bF s l2,true,ns2,()),())))) :
  m5 s m' L' (F.bind K) (G.bind K'):=by
 rcases h with⟨i,l1,l2,ns,rfl,rfl,h1,h2,h3,h4,h5,h6⟩ | ⟨i,l1,b1,ns1,j,l2,ns2,rfl,h1,h2,h3,rfl,h4,h5⟩
 ·exact hg i l1 l2 ns h1 h2 h3 h4 h5 h6
 ·exact hd i l1 b1 ns1 j l2 ns2 h1 h2 h3 h4 h5
theorem i8 {s m:ak} {L:Int} {F:RI} {G:RS} {l1:ak} {b1:Bool} {ns1:List aa} {j:Int} {l2:ak} {ns2:List aa} (hF:gb l1 b1 ns1 F) (hd:Dm b1 ns1) (h1:l1 <:+ m) (hG:G=some ((j,()),((ba s,bF s l2,true,ns2,()),()))) (h2:l2 <:+ s) (h3:ns2.length≤61+m.length):m5 s m L F G:=by
 obtain⟨i,l',b',ns',e,k1,k2,k3⟩:=hF.dm hd
 exact .inr ⟨i,l',b',ns',j,l2,ns2,e,k2,ah k1 h1,k3,hG,h2,h3⟩
def R5 (s:ak) (n:Nat):Prop := ∀(l l0:ak),bl l=bl l0→l <:+ s→l0 <:+ s→(bl l).length < n → ∀(L deep:Int) (ns:List aa),1≤L→L≤5→0≤deep→deep+((bl l).length:Int)≤200→de ns=true→ns.length≤60 →
 m5 s (bl l) L (bC L deep (ba l) false ns) (eF L (ba s) (bF s l0) false ns)
theorem jY {c:UInt8} {l:ak}:([c]:ak).isPrefixOf l=decide (l.head? = some c):=DL c l
theorem TP {s:ak} (hs:s.length≤200) {n:Nat} (HB:R5 s n) : ∀(k:Nat) (l1 l2:ak),(bl l1).length=k→bl l1=bl l2→l1 <:+ s→l2 <:+ s→(bl l1).length < n → ∀(op deep:Int) (kids:List Int) (ns:List aa),0≤deep→deep+1+((bl l1).length:Int)≤200→kids.length+(bl l1).length≤1000→de ns=true→ns.length≤60 →
  m5 s (bl l1) 5 (cr op deep (ba l1) false kids ns) (cN op (ba s) (bF s l2) false kids ns):=by
 intro k
 induction k using Nat.strongRecOn with
 | ind k ih =>
  intro l1 l2 hk hb hs1 hs2 hn op deep kids ns hd0 hd hkl ho hns
  subst hk
  have hl1:=aF hs1
  have hm1:=aF (au l1)
  have hms:bl l1 <:+ s:=ah (au l1) hs1
  rw[MT (by omega),MU,Va (by omega) hs2,←hb]
  have doom : ∀(y:List Int) (x1:ak) (b1:Bool) (ns1:List aa) (x2:ak) (ns2:List aa),y.length=kids.length+1→Dm b1 ns1→x1 <:+ bl l1→ns1.length≤60→x2 <:+ s→ns2.length≤61+(bl l1).length →
    m5 s (bl l1) 5 (zl op deep y (ba x1) b1 ns1) (Cd op y (ba s) (bF s x2) true ns2):=by
   intro y x1 b1 ns1 x2 ns2 hy hdm hx1 hn1 hx2 hn2
   have hlx:=aF hx1
   obtain⟨l',h1,h2⟩:=vG (op:=op) (y:=y) (ns:=ns2) (by omega) hx2
   exact i8 (zm hd0 (by omega) (by omega) hn1) hdm hx1 h2 h1 hn2
  have good : ∀(y:List Int) (x1 x2:ak) (ns:List aa),y.length=kids.length+1→bl x1=bl x2→x1 <:+ bl l1→x2 <:+ bl l1→de ns=true→ns.length≤60 →
    m5 s (bl l1) 5 (zl op deep y (ba x1) false ns) (Cd op y (ba s) (bF s x2) false ns):=by
   intro y x1 x2 ns hy hbx hx1 hx2 ho hn
   have hlx:=aF hx1
   have hblx:=aF (au x1)
   have hx2s:=ah hx2 hms
   have c41 : ¬(41:UInt8)=44:=by decide
   have c44 : ¬(44:UInt8)=41:=by decide
   unfold zl Cd
   rw[show(⟨#[44]⟩:ByteArray)=ba [44] from rfl,show(⟨#[41]⟩:ByteArray)=ba [41] from rfl,dT (by omega),hH (by omega) (by decide) hx2s]
   simp only[Option.bind_some,mY (c:=44) (.inr (.inr (.inr (.inl rfl)))),iR,ga,List.length_singleton,Bool.not_false,Bool.true_and,jY,←hbx]
   by_cases h44:(bl x1).head? = some 44
   ·have h41 : ¬(bl x1).head? = some 41:=by rw[h44]; simp
    simp only[h44,h41,decide_true,decide_false,Bool.not_true,Bool.false_eq_true,if_false,if_true,Option.some.injEq,c44]
    rw[hH (by omega) (by decide) (ah (au x1) (ah hx1 hms))]
    simp only[Option.bind_some,Bool.not_false,Bool.true_and,jY,dz,h44,decide_true,if_true,Bool.not_true,Bool.false_eq_true,if_false,List.length_singleton]
    have hlt:=nK h44
    have hb2:=aF (au ((bl x1).drop 1))
    have hsx:(bl x1).drop 1 <:+ bl l1:=ah (gy x1) hx1
    exact(ih _ (by omega) _ _ rfl rfl (ah hsx hms) (ah hsx hms) (by omega) op deep y ns hd0 (by omega) (by omega) ho hn).mono (ah (au _) hsx)
   ·simp only[h44,decide_false,Bool.not_false,if_true,if_false,Bool.false_eq_true]
    rw[dT (by omega)]
    simp only[Option.bind_some,mY (c:=41) (.inr (.inr (.inl rfl))),dz,List.length_singleton]
    by_cases h41:(bl x1).head? = some 41
    ·simp only[h41,decide_true,if_true,Bool.not_true]
     have hsx:(bl x1).drop 1 <:+ bl l1:=ah (gy x1) hx1
     exact qp (FN (by omega)) rfl hsx hsx hms ho hn
    ·simp only[h41,decide_false,if_false,Bool.not_false,Bool.false_eq_true]
     rw[hH (by omega) (by decide) (ah (au x1) (ah hx1 hms))]
     simp only[Option.bind_some,Bool.not_false,Bool.true_and,jY,dz,h44,decide_false,if_true,Bool.false_eq_true,if_false]
     have hsx:bl x1 <:+ bl l1:=ah (au x1) hx1
     exact i8 (eL hn (FN (by omega))) (FO ho) hsx Ij (ah hsx hms) (by omega)
  by_cases ha:Ig (bl l1)=true
  ·rw[if_pos ha,if_pos ha]
   have hX:(jH (bl l1)).dropWhile aX <:+ bl l1:=by
    have:=GR (bl l1)
    rw[dz] at this
    exact this
   cases h2:(cG ((jH (bl l1)).takeWhile aX)).2 with
   | true =>
    simp only[Bool.not_true,if_true]
    refine qq (qp (m:=bl l1) rfl rfl hX hX hms ho hns) ?_ ?_
    ·intro i x1 x2 ns' e1 e2 e3 e4 e5 _
     simp only
     rw[bv (by simp only[List.length_singleton]; omega),bv (by simp only[List.length_singleton]; omega)]
     exact good _ _ _ _ (by simp) e1 e2 e3 e4 e5
    ·intro i x1 b1 ns1 j x2 ns2 e1 e2 e3 e4 e5
     simp only
     rw[bv (by simp only[List.length_singleton]; omega),bv (by simp only[List.length_singleton]; omega)]
     have:kids++[i]=kids++[i]:=rfl
     by_cases hij:i=j
     ·subst hij
      exact doom _ _ _ _ _ _ (by simp) e1 e2 e3 e4 e5
     ·obtain⟨l',h1,h2⟩:=vG (op:=op) (y:=kids++[j]) (ns:=ns2) (by omega) e4
      have hlx:=aF e2
      exact i8 (zm hd0 (by omega) (by simp only[List.length_append,List.length_singleton]; omega) e3) e1 e2 h2 h1 e5
   | false =>
    simp only[Bool.not_false,Bool.false_eq_true,if_false]
    obtain⟨i,h3,_⟩:=Ca (x:=nA (cG ((bl l1).takeWhile aX)).1 (cG ((jH (bl l1)).takeWhile aX)).1) (l:=(jH (bl l1)).dropWhile aX) (b:=true) hns
    rw[h3]
    simp only[Option.bind_some,Bool.true_eq_false,false_and,if_false,Bool.true_or]
    rw[bv (by simp only[List.length_singleton]; omega),bv (by simp only[List.length_singleton]; omega)]
    obtain⟨l',h1,h2⟩:=vG (op:=op) (y:=kids++[0]) (ns:=ns) (by omega) (ah hX hms)
    have hlx:=aF hX
    exact i8 (zm hd0 (by omega) (by simp only[List.length_append,List.length_singleton]; omega) hns) (FO ho) hX h2 h1 (by omega)
  ·rw[if_neg ha,if_neg ha,wr (by omega) (by omega)]
   refine qq (HB l1 (bl l1) (dz l1).symm hs1 hms hn 1 (deep+1) ns (by decide) (by decide) (by omega) (by omega) ho hns) ?_ ?_
   ·intro i x1 x2 ns' e1 e2 e3 e4 e5 _
    simp only
    rw[bv (by simp only[List.length_singleton]; omega),bv (by simp only[List.length_singleton]; omega)]
    exact good _ _ _ _ (by simp) e1 e2 e3 e4 e5
   ·intro i x1 b1 ns1 j x2 ns2 e1 e2 e3 e4 e5
    simp only
    rw[bv (by simp only[List.length_singleton]; omega),bv (by simp only[List.length_singleton]; omega)]
    obtain⟨l',h1,h2⟩:=vG (op:=op) (y:=kids++[j]) (ns:=ns2) (by omega) e4
    have hlx:=aF e2
    exact i8 (zm hd0 (by omega) (by simp only[List.length_append,List.length_singleton]; omega) e3) e1 e2 h2 h1 e5
theorem Ik {p:UInt8→Bool} {c:UInt8} : ∀ {l:ak},c∈l.takeWhile p→p c=true
 | [],h=>by simp at h
 | x :: l,h=>by
  cases hx:p x with
  | true =>
   rw[List.takeWhile_cons_of_pos hx] at h
   rcases List.mem_cons.1 h with rfl | h
   ·exact hx
   ·exact Ik h
  | false =>
   rw[List.takeWhile_cons_of_neg (by rw[hx]; decide)] at h
   cases h
theorem TQ {w:ak} (hw : ∀ c∈w,aX c=true) (h:(bo w).2=true):(w≠[])↔((bo w).1.1=1∨(bo w).1.1=3):=by
 constructor
 ·intro hne
  obtain⟨k1,k2⟩:=qn h
  rcases we k1 with e | ⟨n,e,_⟩ | ⟨t,e⟩ | ⟨b,e⟩ | ⟨n,e,h0⟩
  ·rw[e] at k2
   exact absurd (Fx (b:=[]) k2.symm) hne
  ·rw[e]; exact .inl rfl
  ·rw[e] at k2
   exfalso
   have e2:w=39 :: lb t:=by
    have:ba w=ba (39 :: lb t):=by
     rw[←k2]
     show(⟨#[39]⟩:ByteArray)++t=_
     rw[←hY t,show(⟨#[39]⟩:ByteArray)=ba [39] from rfl,rF,eu]
     rfl
    exact Fx this
   exact absurd (hw 39 (by rw[e2]; simp)) (by decide)
  ·rw[e]; exact .inr rfl
  ·rw[e] at k2
   exfalso
   have f : ∀ n:Fin 6,1≤n.val→dp (n.val:Int)=ba (35 :: n9 (n.val:Int)):=by decide +kernel
   have e2:w=35 :: n9 (n.val:Int):=by
    have:ba w=ba (35 :: n9 (n.val:Int)):=by
     rw[←k2]
     exact f n h0
    exact Fx this
   exact absurd (hw 35 (by rw[e2]; simp)) (by decide)
 ·rintro hk rfl
  have:(bo []).1.1=0:=rfl
  omega
theorem Uz {s:ByteArray} {a:Int} {ns:List aa}:eF 5 s a false ns=uZ s a false ns:=by
 rw[AU]
 simp only[Bool.false_eq_true,if_false,ga]
 rfl
abbrev TR (k:Int):aa:=(4,0,(0,0,(⟨#[]⟩:ByteArray),()),((0,0,()),false,false,()),((0,0,()),false,false,()),([k]:(List Int)),())
theorem R6:ByteArray.size ⟨#[]⟩≤9223372036854775807:=by decide
theorem qr {s m:ak} {L i j:Int} {l1 l2:ak} {b:Bool} {ns1 ns2:List aa} (hd:Dm b ns1) (h1:l1 <:+ m) (h2:ns1.length≤60) (h3:l2 <:+ s) (h4:ns2.length≤61+m.length):m5 s m L (some ((i,()),((ba l1,ns1,b,()),()))) (some ((j,()),((ba s,bF s l2,true,ns2,()),()))) :=
 .inr ⟨i,l1,b,ns1,j,l2,ns2,rfl,hd,h1,h2,rfl,h3,h4⟩
theorem TS {s:ak} (hs:s.length≤200) {n:Nat} (HB:R5 s n) {m:ak} (hbm:bl m=m) (hms:m <:+ s) (hmn:m.length≤n) {deep:Int} {ns:List aa} (hd0:0≤deep) (hd:deep+(m.length:Int)≤200) (ho:de ns=true) (hn:ns.length≤60) :
  m5 s m 5 (hJ deep (m.takeWhile aX) (m.dropWhile aX) false ns) ((l8 (ba s) (bF s m) false ns).bind fun z10=>(fb z10.1.1 1 z10.2.1.1 z10.2.1.2.1 z10.2.1.2.2.1 z10.2.1.2.2.2.1)):=by
 have hml:=aF hms
 have hwl:=lL aX m
 have hrm:m.dropWhile aX <:+ m:=List.dropWhile_suffix _
 have hrs:=ah hrm hms
 have hrl:=aF hrm
 rw[DW (by omega) hms]
 simp only[Option.bind_some]
 obtain⟨l',hl',e⟩:=Ll (w:=m.takeWhile aX) (s:=s) (ns:=ns) (by omega) (by omega) mZ [] (m.dropWhile aX) rfl hrs
 have e:fb (ba (m.takeWhile aX)) 1 (ba s) (bF s (m.dropWhile aX)) false ns=_:=e
 rw[e]
 have hl's:l' <:+ m:=by
  rcases hl' with rfl | rfl
  ·exact hrm
  ·exact ah (au _) hrm
 have hlb:bl l'=bl (m.dropWhile aX):=by
  rcases hl' with rfl | rfl
  ·rfl
  ·exact dz _
 cases hf:mZ.find? (fun k=>decide (fO k=m.takeWhile aX)) with
 | some k =>
  obtain⟨k',hk',hkw,hkm,hne⟩:=N5 (w:=m.takeWhile aX) (by rw[hf]; simp)
  rw[hf] at hk'
  cases hk'
  have hno : ∀ k∈mZ,(bo (fO k)).2=false∧(cG (fO k)).2=false:=by decide +kernel
  obtain⟨v1,v2⟩:=hno k hkm
  rw[hkw] at v1 v2
  have hlt:=N6 (l:=m) (by rw[hbm]; exact hne)
  rw[hbm] at hlt
  have ei:hJ deep (m.takeWhile aX) (m.dropWhile aX) false ns=gV k deep (ba (m.dropWhile aX)) false ns:=by
   unfold hJ
   rw[if_neg (by rw[v1]; simp),if_neg (by rw[v2]; simp),hf]
  rw[ei,vh,if_neg (by decide),show(⟨#[40]⟩:ByteArray)=ba [40] from rfl,dT (by omega)]
  simp only[Option.bind_some,mY (c:=40) (.inr (.inl rfl)),jY,List.length_singleton]
  by_cases h40:(bl (m.dropWhile aX)).head? = some 40
  ·simp only[h40,decide_true,Bool.and_true,hf,if_true,Bool.not_true]
   have hdl:=nK h40
   have hds:(bl (m.dropWhile aX)).drop 1 <:+ m:=ah (gy _) hrm
   have hb2:=aF (au ((bl (m.dropWhile aX)).drop 1))
   rw[IB,PY]
   exact(TP hs HB _ _ _ rfl rfl (ah hds hms) (ah hds hms) (by omega) k deep [] ns hd0 (by omega) (by simp only[List.length_nil]; omega) ho hn).mono (ah (au _) hds)
  ·simp only[h40,decide_false,Bool.and_false,if_false,Bool.not_false]
   have e0:mZ.find? (fun _=>false)=none:=rfl
   rw[e0]
   simp only
   have es:qo (m.takeWhile aX) s (bF s l') false ns=some ((0,()),((ba s,bF s l',true,ns,()),())):=by
    unfold qo
    rw[if_neg (by rw[v1]; simp),if_neg (by rw[v2]; simp)]
   rw[es,kC]
   simp only[Bool.not_true,Bool.false_eq_true,if_false,iR]
   exact i8 (eL hn (FN (by simp))) (FO ho) (ah (au _) hrm) rfl (ah hl's hms) (by omega)
 | none =>
  have e0:mZ.find? (fun k=>decide (fO k=m.takeWhile aX) && ([40]:ak).isPrefixOf (bl (m.dropWhile aX)))=none:=by
   rw[List.find?_eq_none] at hf ⊢
   intro k hk
   have:=hf k hk
   simp only[decide_eq_true_eq] at this
   simp[this]
  rw[e0]
  simp only
  unfold qo hJ
  rw[hf]
  have hv:=fun h=>TQ (w:=m.takeWhile aX) (fun c hc=>Ik hc) h
  by_cases hc:(bo (m.takeWhile aX)).2=true∧m.takeWhile aX≠[]
  ·rw[if_pos hc,if_pos ⟨hc.1,(hv hc.1).1 hc.2⟩,oa]
   exact qp (N4 (Nat.le_trans (et (qn hc.1).1) (by decide))) hlb.symm hrm hl's hms ho hn
  ·rw[if_neg hc,if_neg (fun h=>hc ⟨h.1,(hv h.1).2 h.2⟩)]
   by_cases hp:(cG (m.takeWhile aX)).2=true
   ·rw[if_pos hp,if_pos hp]
    exact qp rfl hlb.symm hrm hl's hms ho hn
   ·rw[if_neg hp,if_neg hp]
    exact qr (FO ho) hrm hn (ah hl's hms) (by omega)
theorem R7 {s:ak} (hs:s.length≤200) {n:Nat} (HB:R5 s n) : ∀(k:Nat) (l l0:ak),(bl l).length=k→bl l=bl l0→l <:+ s→l0 <:+ s→(bl l).length≤n → ∀(deep:Int) (ns:List aa),0≤deep→deep+((bl l).length:Int)≤200→de ns=true→ns.length≤60 →
  m5 s (bl l) 5 (j8 deep (ba l) false ns) (uZ (ba s) (bF s l0) false ns):=by
 intro k
 induction k using Nat.strongRecOn with
 | ind k ih =>
  intro l l0 hk hb hs1 hs2 hln deep ns hd0 hd ho hn
  subst hk
  have hl1:=aF hs1
  have hm1:=aF (au l)
  have hms:bl l <:+ s:=ah (au l) hs1
  rw[tY,aw (by omega),Ko,show(⟨#[45]⟩:ByteArray)=ba [45] from rfl,show(⟨#[40]⟩:ByteArray)=ba [40] from rfl,show(⟨#[34]⟩:ByteArray)=ba [34] from rfl,show(⟨#[35]⟩:ByteArray)=ba [35] from rfl,show(⟨#[41]⟩:ByteArray)=ba [41] from rfl,dT (by omega),hH (by omega) (by decide) hs2]
  simp only[Option.bind_some,Bool.false_eq_true,if_false,iR,ga,mY (c:=45) (.inl rfl),List.length_singleton,Bool.not_false,Bool.true_and,jY,←hb]
  by_cases h45:(bl l).head? = some 45
  ·simp only[h45,decide_true,if_true]
   have hlt:=nK h45
   have hX:(bl l).drop 1 <:+ bl l:=fx 1 _
   have hbX:=aF (au ((bl l).drop 1))
   have hlX:((bl l).drop 1).length < (bl l).length:=by
    obtain⟨t,ht⟩:=jI h45
    rw[ht]
    simp
   rw[wr (by omega) (by omega),Uz]
   refine qq (ih _ (by omega) _ _ rfl rfl (ah hX hms) (ah hX hms) (by omega) (deep+1) ns (by omega) (by omega) ho hn) ?_ ?_
   ·intro i x1 x2 ns' e1 e2 e3 e4 e5 _
    exact qp (x:=TR i) rfl e1 (ah e2 (ah (au _) hX)) (ah e3 (ah (au _) hX)) hms e4 e5
   ·intro i x1 b1 ns1 j x2 ns2 e1 e2 e3 e4 e5
    refine i8 (eL e3) e1 (ah e2 (ah (au _) hX)) (Ls (x:=TR j) (ns:=ns2) (by omega) R6) e4 ?_
    show(ns2++[TR j]).length≤_
    rw[List.length_append,List.length_singleton]
    omega
  ·simp only[h45,decide_false,Bool.false_eq_true,if_false]
   rw[Lm (by omega),hH (by omega) (by decide) hms]
   simp only[Option.bind_some,dz,Bool.not_false,Bool.true_and,jY,List.length_singleton]
   by_cases h40:(bl l).head? = some 40
   ·have n34 : ¬(bl l).head? = some 34:=by rw[h40]; decide
    have n35 : ¬(bl l).head? = some 35:=by rw[h40]; decide
    simp only[h40,decide_true,if_true]
    rw[if_neg (by decide),if_neg (by decide)]
    have hX:(bl l).drop 1 <:+ bl l:=fx 1 _
    have hbX:=aF (au ((bl l).drop 1))
    have hlX:((bl l).drop 1).length < (bl l).length:=by
     obtain⟨t,ht⟩:=jI h40
     rw[ht]
     simp
    rw[wr (by omega) (by omega)]
    refine qq (HB _ _ rfl (ah hX hms) (ah hX hms) (by omega) 1 (deep+1) ns (by decide) (by decide) (by omega) (by omega) ho hn) ?_ ?_
    ·intro i x1 x2 ns' e1 e2 e3 e4 e5 _
     have hx1:x1 <:+ bl l:=ah e2 (ah (au _) hX)
     have hx2:x2 <:+ bl l:=ah e3 (ah (au _) hX)
     have hlx:=aF hx1
     simp only[Bool.false_eq_true,if_false]
     rw[dT (by omega),hH (by omega) (by decide) (ah hx2 hms)]
     simp only[Option.bind_some,mY (c:=41) (.inr (.inr (.inl rfl))),List.length_singleton,Bool.not_false,Bool.true_and,jY,←e1]
     by_cases h41:(bl x1).head? = some 41
     ·simp only[h41,decide_true,if_true,Bool.not_true,Bool.false_eq_true,if_false]
      have hd1:(bl x1).drop 1 <:+ bl l:=ah (gy x1) hx1
      exact .inl ⟨i,(bl x1).drop 1,(bl x1).drop 1,ns',rfl,rfl,rfl,hd1,hd1,e4,e5,.inr (PX _)⟩
     ·simp only[h41,decide_false,if_false,Bool.not_false,Bool.false_eq_true,if_true]
      have hd1:bl x1 <:+ bl l:=ah (au x1) hx1
      exact qr (FO e4) hd1 e5 (ah hd1 hms) (by omega)
    ·intro i x1 b1 ns1 j x2 ns2 e1 e2 e3 e4 e5
     have hx1:x1 <:+ bl l:=ah e2 (ah (au _) hX)
     have hlx:=aF hx1
     rw[hH (by omega) (by decide) e4]
     simp only[Option.bind_some,Bool.not_true,Bool.false_and,Bool.false_eq_true,if_false,Bool.not_false,if_true]
     cases b1 with
     | true =>
      simp only[if_true]
      exact qr ⟨.inl rfl,e1.2⟩ hx1 e3 (ah (au x2) e4) (by omega)
     | false =>
      simp only[Bool.false_eq_true,if_false]
      rw[dT (by omega)]
      simp only[Option.bind_some]
      have hdm:de ns1=false:=e1.1.elim (fun h=>by cases h) id
      refine qr ⟨.inr hdm,e1.2⟩ ?_ e3 (ah (au x2) e4) (by omega)
      split
      ·exact ah (ah (fx _ _) (au _)) hx1
      ·exact ah (au _) hx1
   ·simp only[h40,decide_false,Bool.false_eq_true,if_false]
    rw[hH (by omega) (by decide) hms]
    simp only[Option.bind_some,dz,Bool.not_false,Bool.true_and,jY,List.length_singleton]
    by_cases h34:(bl l).head? = some 34
    ·simp only[h34,decide_true,if_true]
     obtain⟨t,ht⟩:=jI h34
     have htl:t.length+1=(bl l).length:=by rw[ht]; simp
     have hts:t <:+ bl l:=⟨[34],by rw[ht]; rfl⟩
     rw[ht]
     simp only[List.drop_succ_cons,List.drop_zero]
     rw[FL (by omega),TL (by omega) (ah hts hms)]
     cases hq:qt t with
     | none =>
      rw[←ht]
      exact qr (FO ho) (nJ _) hn ⟨s,by simp⟩ (by omega)
     | some p =>
      obtain⟨q1,q2,q3⟩:=RR t p.1 p.2 hq
      show m5 s _ 5 (bJ _ _ false ns) (bT _ _ _ false ns)
      rw[oa,←ht]
      have hp:=ah q1 hts
      refine qp (x:=nC (2,0,ba ([]++p.1),())) (N4 ?_) rfl hp hp hms ho hn
      show(ba ([]++p.1)).size≤_
      rw[aN]
      simp only[List.nil_append]
      omega
    ·simp only[h34,decide_false,Bool.false_eq_true,if_false]
     rw[hH (by omega) (by decide) hms]
     simp only[Option.bind_some,dz,Bool.not_false,Bool.true_and,jY,List.length_singleton]
     by_cases h35:(bl l).head? = some 35
     ·simp only[h35,decide_true,if_true]
      obtain⟨t,ht⟩:=jI h35
      have htl:t.length+1=(bl l).length:=by rw[ht]; simp
      have hts:t <:+ bl l:=⟨[35],by rw[ht]; rfl⟩
      rw[ht]
      simp only[List.drop_succ_cons,List.drop_zero]
      have es:=Ie (s:=s) (l:=t) (b:=false) (ns:=ns) (by omega) (ah hts hms) xM [] rfl
      have es:io 1 (ba s) (bF s t) false ns=_:=es
      rw[N7 (by omega),es]
      cases xM.find? (xN t) with
      | none =>
       simp only
       rw[←ht]
       exact qr (FO ho) (nJ _) hn (ah hts hms) (by omega)
      | some e =>
       simp only
       rw[oa,←ht]
       have hp:=ah (fx (n9 e).length t) hts
       exact qp (x:=nC (vE e)) (N4 (by show eS.size≤_; decide)) rfl hp hp hms ho hn
     ·simp only[h35,decide_false,Bool.false_eq_true,if_false]
      exact TS hs HB (dz l) hms hln hd0 hd ho hn
noncomputable def Bn:Nat→Int→(Int×Unit)×(ko×Unit)→RS
 | 0,_,z=>some ((z.1.1,()),(z.2.1,()))
 | c+1,L,z=>(c8 (L+(c:Int)) z.1.1 z.2.1.1 z.2.1.2.1 z.2.1.2.2.1 z.2.1.2.2.2.1).bind (Bn c L)
theorem GT {L a:Int} {s:ByteArray} {i:Int} {ns:List aa}:c8 L a s i true ns=some ((a,()),((s,i,true,ns,()),())):=by
 rw[vi]
 rfl
theorem Ce : ∀(c:Nat) (L a:Int) (s:ByteArray) (i:Int) (ns:List aa),Bn c L ((a,()),((s,i,true,ns,()),()))=some ((a,()),((s,i,true,ns,()),()))
 | 0,_,_,_,_,_=>rfl
 | c+1,L,a,s,i,ns=>by
  show(c8 _ a s i true ns).bind (Bn c L)=_
  rw[GT]
  exact Ce c L a s i ns
theorem Lt : ∀(c:Nat) (L:Int) (z:(Int×Unit)×(ko×Unit)),Bn (c+1) L z=(Bn c (L+1) z).bind fun z2=>c8 L z2.1.1 z2.2.1.1 z2.2.1.2.1 z2.2.1.2.2.1 z2.2.1.2.2.2.1
 | 0,L,z=>by
  show(c8 (L+((0:Nat):Int)) z.1.1 z.2.1.1 z.2.1.2.1 z.2.1.2.2.1 z.2.1.2.2.2.1).bind (fun z=>some ((z.1.1,()),(z.2.1,())))=c8 L z.1.1 z.2.1.1 z.2.1.2.1 z.2.1.2.2.1 z.2.1.2.2.2.1
  rw[ga,show L+((0:Nat):Int)=L by omega]
 | c+1,L,z=>by
  show(c8 (L+((c+1:Nat):Int)) z.1.1 z.2.1.1 z.2.1.2.1 z.2.1.2.2.1 z.2.1.2.2.2.1).bind (Bn (c+1) L)=((c8 (L+1+(c:Int)) z.1.1 z.2.1.1 z.2.1.2.1 z.2.1.2.2.1 z.2.1.2.2.2.1).bind (Bn c (L+1))).bind _
  rw[show L+((c+1:Nat):Int)=L+1+(c:Int) by omega,Option.bind_assoc]
  congr 1
  funext y
  exact Lt c L y
theorem FP {s:ByteArray} {a:Int} {ns:List aa} : ∀(c:Nat) (L:Int),L+(c:Int)=5→1≤L→eF L s a false ns=(eF 5 s a false ns).bind (Bn c L)
 | 0,L,h,_=>by
  have:L=5:=by omega
  subst this
  exact ga.symm
 | c+1,L,h,h1=>by
  have hL : ¬(L == 5)=true:=by simp only[beq_iff_eq]; omega
  rw[AU,if_neg (by decide),if_neg hL,wr (by omega) (by omega),FP c (L+1) (by omega) (by omega),Option.bind_assoc]
  congr 1
  funext z
  exact(Lt c L z).symm
abbrev nB (op a b:Int):aa:=(5,op,(0,0,(⟨#[]⟩:ByteArray),()),((0,0,()),false,false,()),((0,0,()),false,false,()),([a,b]:(List Int)),())
theorem TT {s m' l1 l2:ak} {L':Int} {x:aa} {ns:List aa} {K:(Int×Unit)×(p8×Unit)→RI} {K':(Int×Unit)×(ko×Unit)→RS} (hsx:vF x=true) (ho:de ns=true) (hn:ns.length≤60)
  (hg:de (ns++[x])=true→(ns++[x]).length≤60→m5 s m' L' (K (((ns.length:Int),()),((ba l1,ns++[x],false,()),()))) (K' (((ns.length:Int),()),((ba s,bF s l2,false,ns++[x],()),()))))
  (hd : ∀(i:Int) (b1:Bool) (ns1:List aa),Dm b1 ns1→ns1.length≤60→m5 s m' L' (K ((i,()),((ba l1,ns1,b1,()),()))) (K' (((ns.length:Int),()),((ba s,bF s l2,true,ns++[x],()),())))) :
  m5 s m' L' ((aR x (ba l1) false ns).bind K) ((bT x (ba s) (bF s l2) false ns).bind K'):=by
 have hx:=Lr hsx
 obtain⟨i,e,hi⟩:=Ca (x:=x) (l:=l1) (b:=false) hn
 rw[e,GO (by omega) hx]
 simp only[Option.bind_some]
 by_cases hlt:ns.length < 60
 ·have hi:=hi rfl hlt
  subst hi
  have d60:decide (60≤ns.length)=false:=decide_eq_false (by omega)
  simp only[d60,hlt,and_self,if_true,Bool.false_or]
  cases hk:du x with
  | true =>
   refine hg ?_ ?_
   ·unfold de at ho ⊢
    rw[List.all_append,ho]
    simp[hk]
   ·rw[List.length_append,List.length_singleton]; omega
  | false =>
   refine hd _ false (ns++[x]) ⟨.inr ?_,N8 (uv ho) hsx⟩ ?_
   ·unfold de
    rw[List.all_append]
    simp[hk]
   ·rw[List.length_append,List.length_singleton]; omega
 ·have d60:decide (60≤ns.length)=true:=decide_eq_true (by omega)
  rw[d60,if_neg (by omega)]
  simp only[Bool.false_or,Bool.true_or]
  exact hd i true ns (FO ho) hn
theorem TU {s:ak} (hs:s.length≤200) {n:Nat} (HB:R5 s n) : ∀(k c:Nat) (l1 l2 M:ak),(bl l1).length=k→bl l1=bl l2→l1 <:+ M→l2 <:+ M→M <:+ s→(bl l1).length≤n → ∀(L left deep:Int) (ns:List aa),1≤L→L+(c:Int)≤5→0≤deep→deep+((bl l1).length:Int)≤200→de ns=true→ns.length≤60→(fz (bl l1)=0∨dx (fz (bl l1)) < L+(c:Int)) →
  m5 s M L (eZ L deep left (ba l1) false ns) (Bn c L ((left,()),((ba s,bF s l2,false,ns,()),()))):=by
 intro k
 induction k using Nat.strongRecOn with
 | ind k ih =>
  intro c
  induction c with
  | zero =>
   intro l1 l2 M hk hb hs1 hs2 hMs hln L left deep ns hL0 hL1 hd0 hd ho hn hpost
   have hl1:=aF (ah hs1 hMs)
   have hbl:=aF (au l1)
   obtain⟨o1,o2⟩:=rJ (bl l1)
   rw[jW]
   simp only[Bool.not_false,if_true]
   rw[DV (by omega),GS o1 o2 (by omega) (fun h=>by rw[dz]; exact zf h),if_pos (by omega)]
   refine .inl ⟨left,bl l1,l2,ns,rfl,rfl,by rw[dz,hb],ah (au l1) hs1,hs2,ho,hn,?_⟩
   rw[dz]
   omega
  | succ c ihc =>
   intro l1 l2 M hk hb hs1 hs2 hMs hln L left deep ns hL0 hL1 hd0 hd ho hn hpost
   have hl1:=aF (ah hs1 hMs)
   have hbl:=aF (au l1)
   have hs2s:=ah hs2 hMs
   obtain⟨o1,o2⟩:=rJ (bl l1)
   obtain⟨l',hl',eop⟩:=VZ (s:=s) (l:=l2) (ns:=ns) (L:=L+(c:Int)) (by omega) (by omega) hs2s
   have hCh:Bn (c+1) L ((left,()),((ba s,bF s l2,false,ns,()),()))=(c8 (L+(c:Int)) left (ba s) (bF s l2) false ns).bind (Bn c L):=rfl
   rw[hCh,vi]
   simp only[Bool.not_false,if_true]
   rw[eop,←hb]
   by_cases hop:fz (bl l1)≠0∧dx (fz (bl l1))=L+(c:Int)
   ·rw[if_pos hop]
    have h0 : ¬(fz (bl l1) == 0)=true:=by simpa using hop.1
    unfold zj
    simp only[Option.bind_some]
    rw[if_neg h0,←hb,wr (by omega) (by omega)]
    have hlt:=Lq hop.1
    have hX:(bl l1).drop (ey (fz (bl l1))).length <:+ M:=ah (fx _ _) (ah (au l1) hs1)
    have hXM:=aF hX
    have hXl:((bl l1).drop (ey (fz (bl l1))).length).length < (bl l1).length:=by
     have:=Lq (l:=bl l1) (by rw[dz]; exact hop.1)
     rw[dz] at this
     exact this
    have hbX:=aF (au ((bl l1).drop (ey (fz (bl l1))).length))
    rw[jW]
    simp only[Bool.not_false,if_true]
    rw[DV (by omega),GS o1 o2 (by omega) (fun h=>by rw[dz]; exact zf h),if_neg (by omega),dz,hop.2,Option.bind_assoc]
    have hMl:(bl l1).length≤M.length:=aF (ah (au l1) hs1)
    refine qq (HB _ _ rfl (ah hX hMs) (ah hX hMs) (by omega) (L+(c:Int)+1) deep ns (by omega) (by omega) hd0 (by omega) ho hn) ?_ ?_
    ·intro i x1 x2 ns' e1 e2 e3 e4 e5 e6
     have hx1:x1 <:+ M:=ah e2 (ah (au _) hX)
     have hx2:x2 <:+ M:=ah e3 (ah (au _) hX)
     have hxl:=aF e2
     have hbx:=aF (au x1)
     have hxM:=aF hx1
     have hMsl:=aF hMs
     simp only
     rw[Option.bind_assoc]
     refine TT (x:=nB (fz (bl l1)) left i) rfl e4 e5 ?_ ?_
     ·intro a1 a2
      exact ih _ (by omega) (c+1) x1 x2 M rfl e1 hx1 hx2 hMs (by omega) L _ deep _ hL0 hL1 hd0 (by omega) a1 a2 (by omega)
     ·intro i2 b1 ns1 a1 a2
      simp only
      rw[GT]
      simp only[Option.bind_some]
      rw[Ce]
      refine i8 (zk _ x1 rfl (fun l' _ deep least b ns d0 d1 hn=>Cc l' deep least b ns d0 d1 hn) L deep i2 b1 ns1 hd0 (by omega) a2) a1 hx1 rfl (ah hx2 hMs) ?_
      rw[List.length_append,List.length_singleton]
      omega
    ·intro i x1 b1 ns1 j x2 ns2 e1 e2 e3 e4 e5
     have hx1:x1 <:+ M:=ah e2 (ah (au _) hX)
     have hxM:=aF hx1
     have hMsl:=aF hMs
     simp only
     rw[Ls (x:=nB (fz (bl l1)) left j) (ns:=ns2) (by omega) R6]
     simp only[Option.bind_some]
     rw[GT]
     simp only[Option.bind_some]
     rw[Ce]
     obtain⟨i3,l3,b3,ns3,h3,j1,j2,j3⟩:=(eL (x:=nB (fz (bl l1)) left i) (l:=x1) (b:=b1) e3).dm e1
     rw[h3]
     simp only[Option.bind_some]
     have hs3:=aF j1
     refine i8 (zk _ l3 rfl (fun l' _ deep least b ns d0 d1 hn=>Cc l' deep least b ns d0 d1 hn) L deep i3 b3 ns3 hd0 (by omega) j3) j2 (ah j1 hx1) rfl e4 ?_
     rw[List.length_append,List.length_singleton]
     omega
   ·rw[if_neg hop]
    unfold zj
    simp only[Option.bind_some]
    rw[if_pos (by rfl)]
    simp only[Option.bind_some]
    have hb':bl l1=bl l':=by
     rcases hl' with rfl | rfl
     ·exact hb
     ·rw[dz,hb]
    have hs':l' <:+ M:=by
     rcases hl' with rfl | rfl
     ·exact hs2
     ·exact ah (au l2) hs2
    exact ihc l1 l' M hk hb' hs1 hs' hMs hln L left deep ns hL0 (by omega) hd0 hd ho hn (by omega)
theorem R8 {s:ak} (hs:s.length≤200) : ∀ n,R5 s n
 | 0=>fun l l0 _ _ _ h=>by omega
 | n+1=>by
  have HB:=R8 hs n
  intro l l0 hb hs1 hs2 hln L deep ns hL0 hL1 hd0 hd ho hn
  have hms:bl l <:+ s:=ah (au l) hs1
  have hm:=aF hms
  rw[se,FP (5 - L).toNat L (by omega) hL0,Uz]
  refine qq (R7 hs HB _ l l0 rfl hb hs1 hs2 (by omega) deep ns hd0 hd ho hn) ?_ ?_
  ·intro i x1 x2 ns' e1 e2 e3 e4 e5 _
   have hbx:=aF (au x1)
   have hx:=aF e2
   exact TU hs HB _ (5 - L).toNat x1 x2 (bl l) rfl e1 e2 e3 hms (by omega) L i deep ns' hL0 (by omega) hd0 (by omega) e4 e5 (.inr (by have:=PX (fz (bl x1)); omega))
  ·intro i x1 b1 ns1 j x2 ns2 e1 e2 e3 e4 e5
   have hx:=aF e2
   rw[Ce]
   exact i8 (zk _ x1 rfl (fun l' _ deep least b ns d0 d1 hn=>Cc l' deep least b ns d0 d1 hn) L deep i b1 ns1 hd0 (by omega) e3) e1 e2 rfl e4 e5
theorem Lu {ns:List aa} (h:sm ns=true) : ∀ x∈ns,x.2.2.1.2.2.1.size≤9223372036854775807:=by
 unfold sm at h
 rw[List.all_eq_true] at h
 exact fun x hx=>Lr (h x hx)
theorem Lv {ns:List aa} (h:sm ns=true) : ∀ x∈ns,x.2.2.2.2.2.1.length≤10000000:=by
 unfold sm at h
 rw[List.all_eq_true] at h
 intro x hx
 have:=h x hx
 unfold vF at this
 rw[Bool.and_eq_true,decide_eq_true_eq,decide_eq_true_eq] at this
 omega
theorem V0 (s:ak):bF s s=0:=by
 unfold bF
 omega
theorem Je {x:ByteArray} (hx:x.size≤9223372036854775807) : ∃(f:List aa) (b:Bool),ll x=some ((f,b,()),())∧lr x=some ((f,b,()),())∧(b=true→fV f=true)∧(b=false→f=[]):=by
 obtain⟨s,rfl⟩ : ∃ s,x=ba s:=⟨lb x,(hY x).symm⟩
 rw[E4,Fb,v6 hx,yQ hx]
 simp only[Option.bind_some]
 cases hp:(plain (ba s) && decide (((ba s).size:Int)≤200)) with
 | false=>exact⟨[],false,rfl,rfl,(fun h=>by cases h),fun _=>rfl⟩
 | true =>
  rw[Bool.and_eq_true,decide_eq_true_eq,aN] at hp
  have hs:s.length≤200:=by omega
  have hbl:=aF (au s)
  have h:=R8 hs (s.length+1) s s rfl (nJ s) (nJ s) (by omega) 1 0 [] (by decide) (by decide) (by decide) (by omega) rfl (by simp)
  rw[V0] at h
  simp only[Bool.not_true,Bool.false_eq_true,if_false]
  rcases h with⟨i,l1,l2,ns,e1,e2,h1,h2,h3,h4,h5,h6⟩ | ⟨i,l1,b1,ns1,j,l2,ns2,e1,h1,h2,h3,e2,h4,h5⟩
  ·rw[e1,e2]
   simp only[Option.bind_some]
   rw[Lb (by omega) (ah h3 (au s)),pB]
   simp only[Option.bind_some,Bool.false_eq_true,if_false]
   have e0:(ByteArray.toList (ba (bl l1)) == ByteArray.toList (⟨#[]⟩:ByteArray))=decide (bl l1=[]):=dD (b:=[])
   rw[e0,←h1,aN,rU (by omega) (Lu (uv h4)) (Lv (uv h4)),nc (by omega) (Lu (uv h4)) (Lv (uv h4))]
   simp only[Option.bind_some]
   by_cases hr:bl l1=[]
   ·rw[aw (by rw[hr]; unfold bF; simp),hr]
    simp only[decide_true,Bool.not_true,Bool.false_eq_true,if_false]
    cases hk:fV ns with
    | true=>exact⟨ns,true,rfl,rfl,fun _=>hk,fun h=>by cases h⟩
    | false=>exact⟨[],false,rfl,rfl,(fun h=>by cases h),fun _=>rfl⟩
   ·have hlen:=List.length_pos_iff.2 hr
    have hls:=aF (ah (ah (au l1) h2) (au s))
    rw[az (by unfold bF; omega)]
    simp only[hr,decide_false,Bool.not_false,if_true]
    exact⟨[],false,rfl,rfl,(fun h=>by cases h),fun _=>rfl⟩
  ·rw[e1,e2]
   simp only[Option.bind_some]
   rw[Lb (by omega) h4,pB]
   simp only[Option.bind_some,if_true]
   refine⟨[],false,rfl,?_,(fun h=>by cases h),fun _=>rfl⟩
   cases b1 with
   | true=>rfl
   | false =>
    have hbad:de ns1=false:=h1.1.elim (fun h=>by cases h) id
    simp only[Bool.false_eq_true,if_false]
    split
    ·rfl
    ·rw[rU (by omega) (Lu h1.2) (Lv h1.2)]
     simp only[Option.bind_some]
     cases hk:fV ns1 with
     | false=>rfl
     | true =>
      exfalso
      have:de ns1=true:=by
       unfold de
       rw[List.all_eq_true]
       intro y hy
       obtain⟨i,hi⟩:=List.getElem?_of_mem hy
       exact(mm hk i y hi).1
      rw[this] at hbad
      cases hbad
def qT:ak→ak
 | []=>[]
 | c :: l=>if c=34 then 34 :: 34 :: qT l else c :: qT l
theorem R9 : ∀ l:ak,(qT l).length≤2*l.length
 | []=>by simp[qT]
 | c :: l=>by
  have:=R9 l
  unfold qT
  split <;> simp only[List.length_cons] <;> omega
theorem Lw (l:ak) : ∀ pre:ak,(34:UInt8) ∉ pre→qT (pre++l)=pre++qT l
 | [],_=>rfl
 | c :: pre,h=>by
  simp only[List.mem_cons,not_or] at h
  rw[List.cons_append,qT,if_neg (fun e=>h.1 e.symm),Lw l pre h.2]
  rfl
theorem PZ : ∀(n:Nat) (l:ak),l.length=n→Lib.replaceK [34] [34,34] (l.count 34) l=qT l:=by
 intro n
 induction n using Nat.strongRecOn with
 | ind n ih =>
  intro l hn
  by_cases hm:(34:UInt8)∈l
  ·obtain⟨pre,t,rfl,h2⟩:=DX 34 l hm
   have hc:(pre++34 :: t).count 34=t.count 34+1:=by
    rw[List.count_append,List.count_eq_zero.2 h2,List.count_cons_self]
    omega
   have hi:Lib.index (pre++34 :: t) [34]=(pre.length:Nat):=by rw[Lib.index_one,GP 34 t pre h2]
   rw[hc,Lib.replaceK_hit _ _ _ _ _ hi,List.take_left' rfl,Lw _ pre h2]
   have hd:(pre++34 :: t).drop (pre.length+([34]:ak).length)=t:=by
    have:pre++34 :: t=(pre++[34])++t:=by simp
    rw[this,List.drop_left' (by simp)]
   rw[hd,ih t.length (by rw[←hn]; simp; omega) t rfl]
   simp[qT]
  ·rw[List.count_eq_zero.2 hm]
   have:=Lw [] l hm
   rw[List.append_nil] at this
   rw[this]
   simp[qT,Lib.replaceK]
theorem MV {l:ak} (hl:l.length≤1000000):strings_ReplaceAll (ba l) (⟨#[34]⟩:ByteArray) (⟨#[34,34]⟩:ByteArray)=some ((ba (qT l),()),()):=by
 rw[xj]
 have hcount:Lib.countB (ba l) (ba [34])=l.count 34:=by
  show Lib.count (lb (ba l)) (lb (ba [34]))=_
  rw[eu,eu,Lib.count_one]
 have hle:l.count 34≤l.length:=List.count_le_length
 show(if(ba l).size < 4294967281∧1≤(ba [34]).size∧(ba l).size+Lib.countB (ba l) (ba [34])*(ba [34,34]).size≤140737488355328 then some (((⟨(Lib.replaceAll (lb (ba l)) (lb (ba [34])) (lb (ba [34,34]))).toArray⟩:ByteArray),()),()) else none)=_
 rw[if_pos ⟨by rw[aN]; omega,by decide,by rw[hcount,aN,aN]; simp only[List.length_cons,List.length_nil]; omega⟩,eu,eu,eu]
 congr 3
 show ba (Lib.replaceAll l [34] [34,34])=_
 unfold Lib.replaceAll Lib.replace Lib.replaceNum
 rw[if_neg (by decide),if_pos (.inl (by decide)),Lib.count_one,PZ _ l rfl]
theorem wh {s:ak} (hs:s.length≤1000000) : ∀(l acc:ak),l <:+ s→acc.length+2*l.length≤4000000→mO (ba s) (ba acc) (bF s l)=some ((ba (acc++qT l++[34]),()),())
 | [],acc,h,ha=>by
  rw[xp,aw (by rw[aN]; unfold bF; simp),show(⟨#[34]⟩:ByteArray)=ba [34] from rfl,br (by simp only[List.length_singleton]; simp at ha; omega)]
  simp[qT]
 | c :: l,acc,h,ha=>by
  obtain⟨pre,h1,h2⟩:=nI h
  have hl:pre.length+l.length+1=s.length:=by rw[h1]; simp; omega
  rw[List.length_cons] at ha
  have h':l <:+ s:=ah ⟨[c],rfl⟩ h
  have e1:(pre.length:Int)+1=bF s l:=by
   unfold bF
   omega
  have e3:(s.take (pre.length+1)).drop pre.length=[c]:=by
   rw[h1,List.take_append,List.drop_append]
   simp
  rw[xp,h2,az (by rw[aN]; omega),kk h1,GJ c 34 (n:=34) rfl,wr (by omega) (by omega),show(pre.length:Int)+1=((pre.length+1:Nat):Int) by omega,xE (by omega) (by omega),e3]
  by_cases hc:c=34
  ·subst hc
   rw[az rfl,show(⟨#[34]⟩:ByteArray)=ba [34] from rfl,br (by simp only[List.length_singleton]; omega),xE (by omega) (by omega),e3,br (by simp only[List.length_append,List.length_singleton]; omega),show((pre.length+1:Nat):Int)=bF s l by omega,wh hs l _ h' (by simp only[List.length_append,List.length_singleton]; omega)]
   simp[qT]
  ·rw[aw hc,br (by simp only[List.length_singleton]; omega),show((pre.length+1:Nat):Int)=bF s l by omega,wh hs l _ h' (by simp only[List.length_append,List.length_singleton]; omega)]
   simp[qT,hc]
theorem Sa {l:ak} (hl:l.length≤1000000):Dn (ba l)=some ((ba (34 :: (qT l++[34])),()),()):=by
 rw[Mu,show(⟨#[34]⟩:ByteArray)=ba [34] from rfl]
 have:=wh hl l [34] (nJ l) (by simp only[List.length_singleton]; omega)
 rw[V0] at this
 rw[this]
 simp
def dc:List ak→ak
 | []=>[]
 | [x]=>x
 | x :: y :: l=>x++44 :: dc (y :: l)
def dl (f:List aa):Nat→Int→Int→ak
 | 0,_,_=>[]
 | n+1,k,L =>
  let x:=fk f k
  if x.1=1 then(if x.2.2.1.1=2 then 34 :: (qT (lb x.2.2.1.2.2.1)++[34]) else lb (dq x.2.2.1))
  else if x.1=2 then mv x.2.2.2.1
  else if x.1=3 then mv x.2.2.2.1++58 :: mv x.2.2.2.2.1
  else if x.1=4 then 45 :: dl f n (x.2.2.2.2.2.1.getD 0 0) 5
  else if x.1=5 then
   let b:=dl f n (x.2.2.2.2.2.1.getD 0 0) (dx x.2.1)++(ey x.2.1++dl f n (x.2.2.2.2.2.1.getD 1 0) (dx x.2.1+1))
   if dx x.2.1 < L then 40 :: (b++[41]) else b
  else fO x.2.1++40 :: (dc (x.2.2.2.2.2.1.map fun k=>dl f n k 1)++[41])
theorem CT : ∀ l:List ak,dc l=Lib.join l [44]
 | []=>rfl
 | [x]=>by rw[Lib.join_one]; rfl
 | x :: y :: l=>by
  rw[dc,CT (y :: l),Lib.join_cons,Lib.join_cons]
  simp[Lib.joinTail]
theorem CU (x:ak) : ∀(l:List ak),l≠[]→dc (l++[x])=dc l++44 :: x
 | [y],_=>rfl
 | y :: z :: l,_=>by
  show y++44 :: dc (z :: l++[x])=(y++44 :: dc (z :: l))++44 :: x
  rw[CU x (z :: l) (by simp)]
  simp
theorem FQ : ∀ l:List ak,(dc l).length≤(l.map List.length).sum+l.length
 | []=>by simp[dc]
 | [x]=>by simp[dc]
 | x :: y :: l=>by
  have:=FQ (y :: l)
  simp only[dc,List.length_append,List.length_cons,List.map_cons,List.sum_cons] at this ⊢
  omega
theorem TV {xs:List ak} (h1:xs.length≤1000) (h2:(dc xs).length≤10000000):strings_Join (xs.map fun x=>ba x) (⟨#[44]⟩:ByteArray)=some ((ba (dc xs),()),()):=by
 rw[Fd]
 have e:(xs.map fun x=>ba x).map (·.data.toList)=xs:=by
  rw[List.map_map]
  conv=>rhs; rw[←List.map_id xs]
  apply List.map_congr_left
  intro x _
  exact eu x
 show(if(xs.map fun x=>ba x).length≤140737488355328∧(Lib.join ((xs.map fun x=>ba x).map (·.data.toList)) (lb (ba [44]))).length≤140737488355328 then some (((⟨(Lib.join ((xs.map fun x=>ba x).map (·.data.toList)) (lb (ba [44]))).toArray⟩:ByteArray),()),()) else none)=_
 rw[e,eu,←CT,if_pos ⟨by rw[List.length_map]; omega,by omega⟩]
theorem GU {p:bS} (h:ca p.1=true):(mv p).length≤6:=by
 obtain⟨c,r,fc,fr,rfl,h1,h2,h3,h4⟩:=Bk h
 have k1:=ur c
 have k2:=sV h4
 show(xK c r fc fr).length≤6
 unfold xK qm
 simp only[List.length_append]
 cases fc <;> cases fr <;> simp <;> omega
theorem N9 (k:Int):(fO k).length≤5:=by
 unfold fO
 by_cases hi:k.toNat < 11
 ·have h : ∀ j:Fin 11,(([[],[83,85,77],[77,73,78],[77,65,88],[67,79,85,78,84],[73,70],[65,78,68],[79,82],[78,79,84],[65,66,83],[76,69,78]]:List ak).getD j.val []).length≤5:=by decide
  exact h ⟨k.toNat,hi⟩
 ·rw[List.getD_eq_getElem?_getD,List.getElem?_eq_none (by simp; omega)]
  simp
theorem Lx {c:Int→Option (Int×Nat)} {f:List aa} {call:Bool} : ∀(l:List Int) (cur:Int) (h:Nat) (s:Int) (h':Nat),fC c f call l cur h=some (s,h') →
  (∀ kid∈l,∃ p,c kid=some p) ∧ ∀ g:Int→Nat,(∀ kid s' h'',c kid=some (s',h'')→(g kid:Int)≤1000*(kid - s'+1))→(((l.map g).sum:Nat):Int)≤1000*(cur - s)
 | [],cur,h,s,h',e=>by
  simp only[fC,Option.some.injEq,Prod.mk.injEq] at e
  obtain⟨rfl,_⟩:=e
  exact⟨fun _ h=>by simp at h,fun g _=>by simp⟩
 | kid :: l,cur,h,s,h',e=>by
  simp only[fC] at e
  split at e
  ·rename_i hk
   rw[Option.bind_eq_some_iff] at e
   obtain⟨p,hp,e⟩:=e
   obtain⟨k1,k2⟩:=Lx l p.1 _ s h' e
   refine⟨fun kid' hm => ?_,fun g hg => ?_⟩
   ·rcases List.mem_cons.1 hm with rfl | hm
    ·exact⟨p,hp⟩
    ·exact k1 kid' hm
   ·have h1:=k2 g hg
    have h2:=hg kid p.1 p.2 hp
    have:=hk.1
    simp only[List.map_cons,List.sum_cons]
    omega
  ·cases e
section
variable {f:List aa}
theorem Ly (n:Nat) (k:Int):dl f n k 0=dl f n k 1:=by
 cases n with
 | zero=>rfl
 | succ n =>
  have hlv : ∀ j,¬dx j < 0 ∧ ¬dx j < 1:=by
   intro j
   unfold dx
   constructor <;> (repeat' split) <;> omega
  unfold dl
  simp only[(hlv _).1,(hlv _).2,if_false]
def P0 (f:List aa) (n:Nat) (k:Int):Prop := ∀ L:Int,fI f k L=some ((ba (dl f n k L),()),())∧mb f k L=some ((ba (dl f n k L),()),())
theorem FR {n:Nat} {kids:List Int} {a op:Int} {v:ab} {A B:bS} {kids':List Int} (hop:0≤op∧op≤10) (hl:kids.length≤10) (hk : ∀ k∈kids,P0 f n k) (hlen:(dc (kids.map fun k=>dl f n k 1)).length≤1000000) : ∀(ys pre:List Int),kids=pre++ys →
  jU f kids (kids.length:Int) (pre.length:Int) a op v A B kids' ((pre.map fun k=>dl f n k 1).map fun x=>ba x)=some ((ba (fO op++40 :: (dc (kids.map fun k=>dl f n k 1)++[41])),()),())
 | [],pre,h=>by
  rw[List.append_nil] at h
  subst h
  have hf:=N9 op
  rw[pL,aw (Int.lt_irrefl _),FM hop.1 hop.2]
  simp only[Option.bind_some]
  rw[show(⟨#[40]⟩:ByteArray)=ba [40] from rfl,br (by simp only[List.length_singleton]; omega),TV (by rw[List.length_map]; omega) (by omega)]
  simp only[Option.bind_some]
  rw[br (by simp only[List.length_append,List.length_singleton]; omega),show(⟨#[41]⟩:ByteArray)=ba [41] from rfl,br (by simp only[List.length_append,List.length_singleton]; omega)]
  simp
 | y :: ys,pre,h=>by
  rw[pL,az (bq h),bk h,(hk y (by rw[h]; simp) 1).1]
  simp only[Option.bind_some]
  have hpl:pre.length≤10:=by
   have:=congrArg List.length h
   simp at this
   omega
  rw[bv (by simp only[List.length_map,List.length_singleton]; omega),aL h (by omega)]
  have:=FR (a:=a) (v:=v) (A:=A) (B:=B) (kids':=kids') hop hl hk hlen ys (pre++[y]) (av h)
  rw[List.map_append,List.map_append] at this
  exact this
theorem FS {n:Nat} {kids:List Int} {a op:Int} {v:ab} {A B:bS} (hl:kids.length≤10) (hk : ∀ k∈kids,P0 f n k) (hlen : ∀ pre ys:List Int,kids=pre++ys→(dc (pre.map fun k=>dl f n k 1)).length≤1000000) (hop:(fO op).length≤5) : ∀(ys pre:List Int),kids=pre++ys →
  mP f (ba (fO op++40 :: dc (pre.map fun k=>dl f n k 1))) (pre.length:Int) a op v A B kids=some ((ba (fO op++40 :: (dc (kids.map fun k=>dl f n k 1)++[41])),()),())
 | [],pre,h=>by
  have h0:=hlen pre [] h
  rw[List.append_nil] at h
  subst h
  rw[xq,aw (Int.lt_irrefl _),show(⟨#[41]⟩:ByteArray)=ba [41] from rfl,br (by simp only[List.length_append,List.length_cons,List.length_nil]; omega)]
  simp
 | y :: ys,pre,h=>by
  have h0:=hlen pre (y :: ys) h
  have h1:=hlen (pre++[y]) ys (av h)
  have hpl:pre.length≤10:=by
   have:=congrArg List.length h
   simp at this
   omega
  have ih:=FS (a:=a) (v:=v) (A:=A) (B:=B) hl hk hlen hop ys (pre++[y]) (av h)
  rw[List.map_append,List.map_singleton] at ih h1
  rw[xq,az (bq h)]
  by_cases hp:pre=[]
  ·subst hp
   simp only[List.nil_append,List.map_nil,dc] at ih h1 ⊢
   rw[aw (by simp),bk (pre:=[]) h,(hk y (by rw[h]; simp) 0).2,Ly]
   simp only[Option.bind_some]
   rw[br (by simp only[List.length_append,List.length_cons,List.length_nil]; omega),aL (pre:=[]) h (by omega)]
   have e:fO op++[40]++dl f n y 1=fO op++40 :: dl f n y 1:=by simp
   rw[e]
   exact ih
  ·have hpos:=List.length_pos_iff.2 hp
   rw[CU _ _ (by simpa using hp)] at ih h1
   simp only[List.length_append,List.length_cons] at h1
   rw[az (by omega),show(⟨#[44]⟩:ByteArray)=ba [44] from rfl,br (by simp only[List.length_append,List.length_cons,List.length_nil]; omega),bk h,(hk y (by rw[h]; simp) 0).2,Ly]
   simp only[Option.bind_some]
   rw[br (by simp only[List.length_append,List.length_cons,List.length_nil]; omega),aL h (by omega)]
   have e:fO op++40 :: dc (pre.map fun k=>dl f n k 1)++[44]++dl f n y 1=fO op++40 :: (dc (pre.map fun k=>dl f n k 1)++44 :: dl f n y 1):=by simp
   rw[e]
   exact ih
end
section
variable {f:List aa}
theorem V1 {l:List Int} (h:l.length=2) : ∃ a b,l=[a,b]:=by
 match l,h with
 | [a,b],_=>exact⟨a,b,rfl⟩
theorem Oa (hf:f.length≤60) : ∀(n:Nat) (k s:Int) (h:Nat),fm f n k=some (s,h)→P0 f n k ∧ ∀ L:Int,((dl f n k L).length:Int)≤1000*(k - s+1)
 | 0,k,s,h,e=>by simp[fm] at e
 | n+1,k,s,h,e=>by
  have hall:=ir f (n+1) k s h e
  obtain⟨hs0,hsk,_⟩:=hall
  have IH:=Oa hf n
  simp only[fm] at e
  split at e
  ·rename_i h0
   split at e
   ·cases e
   ·rename_i x hx
    split at e
    ·rename_i hok
     obtain⟨q1,q2⟩:=Lx _ _ _ _ _ e
     have hkl:k < 60:=by
      have:=(List.getElem?_eq_some_iff.1 hx).1
      omega
     have hK : ∀ kid∈x.2.2.2.2.2.1,P0 f n kid ∧ ∃ s' h',fm f n kid=some (s',h'):=by
      intro kid hm
      obtain⟨p,hp⟩:=q1 kid (List.mem_reverse.2 hm)
      exact⟨(IH kid p.1 p.2 hp).1,p.1,p.2,hp⟩
     have hnode:fk f k=x:=by
      unfold fk
      rw[List.getD_eq_getElem?_getD,hx]
      rfl
     have hfx : ∀ L,dl f (n+1) k L=(if x.1=1 then(if x.2.2.1.1=2 then 34 :: (qT (lb x.2.2.1.2.2.1)++[34]) else lb (dq x.2.2.1))
      else if x.1=2 then mv x.2.2.2.1
      else if x.1=3 then mv x.2.2.2.1++58 :: mv x.2.2.2.2.1
      else if x.1=4 then 45 :: dl f n (x.2.2.2.2.2.1.getD 0 0) 5
      else if x.1=5 then(if dx x.2.1 < L then 40 :: ((dl f n (x.2.2.2.2.2.1.getD 0 0) (dx x.2.1)++(ey x.2.1++dl f n (x.2.2.2.2.2.1.getD 1 0) (dx x.2.1+1)))++[41]) else(dl f n (x.2.2.2.2.2.1.getD 0 0) (dx x.2.1)++(ey x.2.1++dl f n (x.2.2.2.2.2.1.getD 1 0) (dx x.2.1+1))))
      else fO x.2.1++40 :: (dc (x.2.2.2.2.2.1.map fun k=>dl f n k 1)++[41])):=by
      intro L
      conv=>lhs; unfold dl
      rw[hnode]
     have hI : ∀ L,fI f k L=_:=fun L=>(Fc (x0:=f) (x1:=k) (x2:=L)).trans (bP h0 hx)
     have hS : ∀ L,mb f k L=_:=fun L=>(OW (x0:=f) (x1:=k) (x2:=L)).trans (bP h0 hx)
     unfold du kl at hok
     by_cases c1:x.1=1
     ·rw[if_pos c1] at hok
      simp only[Bool.and_eq_true,decide_eq_true_eq] at hok
      have hv:=hok.1.1.2
      have hsz:=et hv
      have b1:(x.1 == 1)=true:=by rw[c1]; rfl
      by_cases c2:x.2.2.1.1=2
      ·have b2:(x.2.2.1.1 == 2)=true:=by rw[c2]; rfl
       have hlb:(lb x.2.2.1.2.2.1).length≤200:=by rw[qi]; exact hsz
       have hq:=R9 (lb x.2.2.1.2.2.1)
       have ea : ∀ L,dl f (n+1) k L=34 :: (qT (lb x.2.2.1.2.2.1)++[34]):=fun L=>by rw[hfx,if_pos c1,if_pos c2]
       refine⟨fun L=>⟨?_,?_⟩,fun L => ?_⟩
       ·rw[hI,if_pos b1,if_pos b2,←hY x.2.2.1.2.2.1,MV (by omega)]
        simp only[Option.bind_some]
        rw[show(⟨#[34]⟩:ByteArray)=ba [34] from rfl,br (by simp only[List.length_singleton]; omega),br (by simp only[List.length_append,List.length_singleton]; omega),ea]
        simp
       ·rw[hS,if_pos b1,if_pos b2,←hY x.2.2.1.2.2.1,Sa (by omega)]
        simp only[Option.bind_some]
        rw[ea]
       ·rw[ea]
        simp only[List.length_cons,List.length_append,List.length_nil]
        omega
      ·have b2 : ¬(x.2.2.1.1 == 2)=true:=by simpa using c2
       have hvs:=HY hv
       have ea : ∀ L,dl f (n+1) k L=lb (dq x.2.2.1):=fun L=>by rw[hfx,if_pos c1,if_neg c2]
       refine⟨fun L=>⟨?_,?_⟩,fun L => ?_⟩
       ·rw[hI,if_pos b1,if_neg b2,rT hv,ea,hY]
        rfl
       ·rw[hS,if_pos b1,if_neg b2,kj (dk hv),if_pos hv,ea,hY]
        rfl
       ·rw[ea,qi]
        omega
     rw[if_neg c1] at hok
     have b1 : ¬(x.1 == 1)=true:=by simpa using c1
     by_cases c2:x.1=2
     ·rw[if_pos c2] at hok
      simp only[Bool.and_eq_true,decide_eq_true_eq] at hok
      have b2:(x.1 == 2)=true:=by rw[c2]; rfl
      have hr:=hok.2
      have hp:=GU hr
      have ea : ∀ L,dl f (n+1) k L=mv x.2.2.2.1:=fun L=>by rw[hfx,if_neg c1,if_pos c2]
      refine⟨fun L=>⟨?_,?_⟩,fun L => ?_⟩
      ·rw[hI,if_neg b1,if_pos b2,ne,if_pos hr,ea]
       rfl
      ·rw[hS,if_neg b1,if_pos b2,rV,if_pos hr,ea]
       rfl
      ·rw[ea]
       omega
     rw[if_neg c2] at hok
     have b2 : ¬(x.1 == 2)=true:=by simpa using c2
     by_cases c3:x.1=3
     ·rw[if_pos c3] at hok
      simp only[Bool.and_eq_true,decide_eq_true_eq] at hok
      have b3:(x.1 == 3)=true:=by rw[c3]; rfl
      have ha:=hok.2
      unfold pv at ha
      simp only[Bool.and_eq_true,decide_eq_true_eq] at ha
      have hr1:=ha.1.1.1
      have hr2:=ha.1.1.2
      have hp1:=GU hr1
      have hp2:=GU hr2
      have ea : ∀ L,dl f (n+1) k L=mv x.2.2.2.1++58 :: mv x.2.2.2.2.1:=fun L=>by rw[hfx,if_neg c1,if_neg c2,if_pos c3]
      refine⟨fun L=>⟨?_,?_⟩,fun L => ?_⟩
      ·rw[hI,if_neg b1,if_neg b2,if_pos b3,ne,if_pos hr1]
       simp only[Option.bind_some]
       rw[show(⟨#[58]⟩:ByteArray)=ba [58] from rfl,br (by simp only[List.length_singleton]; omega),ne,if_pos hr2]
       simp only[Option.bind_some]
       rw[br (by simp only[List.length_append,List.length_singleton]; omega),ea]
       simp
      ·rw[hS,if_neg b1,if_neg b2,if_pos b3,rV,if_pos hr1]
       simp only[Option.bind_some]
       rw[show(⟨#[58]⟩:ByteArray)=ba [58] from rfl,br (by simp only[List.length_singleton]; omega),rV,if_pos hr2]
       simp only[Option.bind_some]
       rw[br (by simp only[List.length_append,List.length_singleton]; omega),ea]
       simp
      ·rw[ea]
       simp only[List.length_append,List.length_cons]
       omega
     rw[if_neg c3] at hok
     have b3 : ¬(x.1 == 3)=true:=by simpa using c3
     by_cases c4:x.1=4
     ·rw[if_pos c4] at hok
      simp only[Bool.and_eq_true,decide_eq_true_eq] at hok
      have b4:(x.1 == 4)=true:=by rw[c4]; rfl
      obtain⟨a,hkids⟩ : ∃ a,x.2.2.2.2.2.1=[a]:=List.length_eq_one_iff.1 (by omega)
      obtain⟨hka,sa,ha,hca⟩:=hK a (by rw[hkids]; simp)
      rw[hkids] at e q2 hI hS hfx
      have hla:=fun L=>(IH a sa ha hca).2 L
      simp only[List.reverse_singleton,fC] at e
      split at e
      ·rename_i hc
       rw[hca] at e
       simp only[Option.bind_some,Option.some.injEq,Prod.mk.injEq] at e
       obtain⟨rfl,_⟩:=e
       have ea : ∀ L,dl f (n+1) k L=45 :: dl f n a 5:=fun L=>by rw[hfx,if_neg c1,if_neg c2,if_neg c3,if_pos c4]; rfl
       have h5:=hla 5
       refine⟨fun L=>⟨?_,?_⟩,fun L => ?_⟩
       ·rw[hI,if_neg b1,if_neg b2,if_neg b3,if_pos b4,bP (y:=a) (by decide) rfl,(hka 5).1]
        simp only[Option.bind_some]
        rw[show(⟨#[45]⟩:ByteArray)=ba [45] from rfl,br (by simp only[List.length_singleton]; omega),ea]
        rfl
       ·rw[hS,if_neg b1,if_neg b2,if_neg b3,if_pos b4,bP (y:=a) (by decide) rfl,(hka 5).2]
        simp only[Option.bind_some]
        rw[show(⟨#[45]⟩:ByteArray)=ba [45] from rfl,br (by simp only[List.length_singleton]; omega),ea]
        rfl
       ·rw[ea]
        simp only[List.length_cons]
        omega
      ·cases e
     rw[if_neg c4] at hok
     have b4 : ¬(x.1 == 4)=true:=by simpa using c4
     by_cases c5:x.1=5
     ·rw[if_pos c5] at hok
      simp only[Bool.and_eq_true,decide_eq_true_eq] at hok
      have b5:(x.1 == 5)=true:=by rw[c5]; rfl
      obtain⟨o1,o2⟩:=bA.1 hok.1.1.1.1
      obtain⟨a,b,hkids⟩ : ∃ a b,x.2.2.2.2.2.1=[a,b]:=V1 (by omega)
      obtain⟨hka,sa,ha,hca⟩:=hK a (by rw[hkids]; simp)
      obtain⟨hkb,sb,hb,hcb⟩:=hK b (by rw[hkids]; simp)
      rw[hkids] at e q2 hI hS hfx
      have hla:=fun L=>(IH a sa ha hca).2 L
      have hlb:=fun L=>(IH b sb hb hcb).2 L
      have hsa:=ir f n a sa ha hca
      have hsb:=ir f n b sb hb hcb
      simp only[List.reverse_cons,List.reverse_nil,List.nil_append,List.cons_append,fC] at e
      split at e
      ·rename_i hc
       rw[hcb] at e
       simp only[Option.bind_some] at e
       split at e
       ·rename_i hc2
        rw[hca] at e
        simp only[Option.bind_some,Option.some.injEq,Prod.mk.injEq] at e
        obtain⟨rfl,_⟩:=e
        have hlv:1≤dx x.2.1∧dx x.2.1≤4:=by
         unfold dx
         constructor <;> (repeat' split) <;> omega
        have ho:=GN x.2.1
        have h1:=hla (dx x.2.1)
        have h2:=hlb (dx x.2.1+1)
        have i1:=hsa.2.1
        have i2:=hsb.2.1
        have ea : ∀ L,dl f (n+1) k L=if dx x.2.1 < L then 40 :: ((dl f n a (dx x.2.1)++(ey x.2.1++dl f n b (dx x.2.1+1)))++[41]) else(dl f n a (dx x.2.1)++(ey x.2.1++dl f n b (dx x.2.1+1))):=fun L=>by rw[hfx,if_neg c1,if_neg c2,if_neg c3,if_neg c4,if_pos c5]; rfl
        refine⟨fun L=>⟨?_,?_⟩,fun L => ?_⟩
        ·rw[hI,if_neg b1,if_neg b2,if_neg b3,if_neg b4,if_pos b5,Ia o1 o2]
         simp only[Option.bind_some]
         rw[bP (y:=a) (by decide) rfl,(hka _).1]
         simp only[Option.bind_some]
         rw[zg (by omega) o2]
         simp only[Option.bind_some]
         rw[br (by omega),bP (y:=b) (by decide) rfl,wr (by omega) (by omega),(hkb _).1]
         simp only[Option.bind_some]
         rw[br (by simp only[List.length_append]; omega),ea]
         by_cases hL:dx x.2.1 < L
         ·rw[az hL,if_pos hL,show(⟨#[40]⟩:ByteArray)=ba [40] from rfl,br (by simp only[List.length_append,List.length_singleton]; omega),show(⟨#[41]⟩:ByteArray)=ba [41] from rfl,br (by simp only[List.length_append,List.length_singleton]; omega)]
          simp
         ·rw[aw hL,if_neg hL]
          simp
        ·rw[hS,if_neg b1,if_neg b2,if_neg b3,if_neg b4,if_pos b5,wg]
         simp only[Option.bind_some]
         rw[bP (y:=a) (by decide) rfl,(hka _).2]
         simp only[Option.bind_some]
         rw[zh (by omega) o2]
         simp only[Option.bind_some]
         rw[br (by omega),bP (y:=b) (by decide) rfl,wr (by omega) (by omega),(hkb _).2]
         simp only[Option.bind_some]
         rw[br (by simp only[List.length_append]; omega),ea]
         by_cases hL:dx x.2.1 < L
         ·rw[az hL,if_pos hL,show(⟨#[40]⟩:ByteArray)=ba [40] from rfl,br (by simp only[List.length_append,List.length_singleton]; omega),show(⟨#[41]⟩:ByteArray)=ba [41] from rfl,br (by simp only[List.length_append,List.length_singleton]; omega)]
          simp
         ·rw[aw hL,if_neg hL]
          simp
        ·rw[ea]
         split <;> simp only[List.length_append,List.length_cons,List.length_nil] <;> omega
       ·cases e
      ·cases e
     rw[if_neg c5] at hok
     have b5 : ¬(x.1 == 5)=true:=by simpa using c5
     by_cases c6:x.1=6
     ·rw[if_pos c6] at hok
      simp only[Bool.and_eq_true,decide_eq_true_eq] at hok
      have hargs:=hok.1.1.1
      have hkn:1≤x.2.2.2.2.2.1.length∧x.2.2.2.2.2.1.length≤10∧0≤x.2.1∧x.2.1≤10:=by
       unfold mX at hargs
       split at hargs
       ·simp only[Bool.or_eq_true,decide_eq_true_eq] at hargs
        omega
       ·split at hargs
        ·rename_i hi
         have:=bA.1 hi
         have:=bA.1 hargs
         omega
        ·split at hargs
         ·rename_i hi
          have:=bA.1 hi
          simp only[decide_eq_true_eq] at hargs
          omega
         ·cases hargs
      have hg:=q2 (fun kid=>(dl f n kid 1).length) (fun kid s' h'' hc=>(IH kid s' h'' hc).2 1)
      rw[List.map_reverse,List.sum_reverse] at hg
      have hfn:=N9 x.2.1
      have hcl : ∀ l:List Int,(dc (l.map fun k=>dl f n k 1)).length≤(l.map fun k=>(dl f n k 1).length).sum+l.length:=by
       intro l
       have:=FQ (l.map fun k=>dl f n k 1)
       rw[List.map_map,List.length_map] at this
       exact this
      have hc0:=hcl x.2.2.2.2.2.1
      have ea : ∀ L,dl f (n+1) k L=fO x.2.1++40 :: (dc (x.2.2.2.2.2.1.map fun k=>dl f n k 1)++[41]):=fun L=>by rw[hfx,if_neg c1,if_neg c2,if_neg c3,if_neg c4,if_neg c5]
      refine⟨fun L=>⟨?_,?_⟩,fun L => ?_⟩
      ·rw[hI,if_neg b1,if_neg b2,if_neg b3,if_neg b4,if_neg b5,ea]
       exact FR ⟨hkn.2.2.1,hkn.2.2.2⟩ hkn.2.1 (fun k hk=>(hK k hk).1) (by omega) _ [] rfl
      ·rw[hS,if_neg b1,if_neg b2,if_neg b3,if_neg b4,if_neg b5,Li hkn.2.2.1 hkn.2.2.2]
       simp only[Option.bind_some]
       rw[show(⟨#[40]⟩:ByteArray)=ba [40] from rfl,br (by simp only[List.length_singleton]; omega),ea]
       refine FS hkn.2.1 (fun k hk=>(hK k hk).1) (fun pre ys hpy => ?_) hfn _ [] rfl
       have h1:=hcl pre
       have h2:(pre.map fun k=>(dl f n k 1).length).sum≤(x.2.2.2.2.2.1.map fun k=>(dl f n k 1).length).sum:=by
        rw[hpy,List.map_append,List.sum_append]
        omega
       have h3:=congrArg List.length hpy
       rw[List.length_append] at h3
       omega
      ·rw[ea]
       simp only[List.length_append,List.length_cons,List.length_nil]
       omega
     ·rw[if_neg c6] at hok
      cases hok
    ·cases e
  ·cases e
theorem GV (hl:f.length≤10000000) (hs : ∀ x∈f,x.2.2.1.2.2.1.size≤9223372036854775807) (hk : ∀ x∈f,x.2.2.2.2.2.1.length≤10000000) : ∃ t:ak,tJ f=some ((ba t,()),())∧tG f=some ((ba t,()),())∧t.length≤200:=by
 rw[Fe,E5,rU hl hs hk,nc hl hs hk]
 simp only[Option.bind_some]
 cases ho:fV f with
 | false=>exact⟨[],rfl,rfl,by simp⟩
 | true =>
  simp only[Bool.not_true,Bool.false_eq_true,if_false]
  have ho':=ho
  unfold fV at ho'
  rw[Bool.and_eq_true] at ho'
  have hlen:=bA.1 ho'.1
  have ht:=ho'.2
  unfold xD at ht
  cases hc:fm f f.length ((f.length:Int) - 1) with
  | none=>rw[hc] at ht; cases ht
  | some p =>
   obtain⟨h1,h2⟩:=Oa (by omega) f.length ((f.length:Int) - 1) p.1 p.2 hc
   rw[wr (by omega) (by omega),(h1 1).1,(h1 0).2,Ly]
   simp only[Option.bind_some,aN]
   by_cases hb:(dl f f.length ((f.length:Int) - 1) 1).length > 200
   ·rw[az (by omega)]
    exact⟨[],rfl,rfl,by simp⟩
   ·rw[aw (by omega)]
    exact⟨_,rfl,rfl,by omega⟩
end
end Go.Proofs.YtnodjiikdgmeaaaGreatDoor.Abs
