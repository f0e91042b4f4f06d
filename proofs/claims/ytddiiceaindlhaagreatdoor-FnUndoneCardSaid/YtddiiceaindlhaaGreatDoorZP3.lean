/- Plain laws: whatever its state, the program's reader comes to an end, keeps what it has put and does not forget that it is bad. -/
import Derived.Test.YtddiiceaindlhaaGreatDoorZP2
import Derived.Lib.SplitLaws
set_option linter.unusedVariables false
set_option linter.unusedSimpArgs false
set_option linter.unusedSectionVars false
namespace Go.Proofs.YtddiiceaindlhaaGreatDoor.Abs
open Go
abbrev RI:=Option ((Int×Unit)×(pE×Unit))
def uG (x:aa):Bool:=decide (x.2.2.1.2.2.1.size≤100000) && decide (x.2.2.2.2.2.1.length≤100000)
def sm (ns:List aa):Bool:=ns.all uG
def gm (l:ac) (b:Bool) (ns:List aa) (F:RI):Prop :=
 ∃(i:Int) (l':ac) (b':Bool) (ns':List aa),F=some ((i,()),((ba l',ns',b',()),()))∧l' <:+ l∧(b=true→b'=true)∧ns <+: ns'∧ns'.length≤60∧(sm ns=true→sm ns'=true)
theorem gm.mono {l l0:ac} {b b0:Bool} {ns ns0:List aa} {F:RI} (h:gm l b ns F) (h1:l <:+ l0) (h2:b0=true→b=true) (h3:ns0 <+: ns) (h4:sm ns0=true→sm ns=true:=by exact id):gm l0 b0 ns0 F:=by
 obtain⟨i,l',b',ns',e,k1,k2,k3,k4,k5⟩:=h
 exact⟨i,l',b',ns',e,ae k1 h1,fun h=>k2 (h2 h),List.IsPrefix.trans h3 k3,k4,fun h=>k5 (h4 h)⟩
theorem ne (l:ac):l <:+ l:=List.suffix_refl l
theorem eW {x:aa} {l:ac} {b:Bool} {ns:List aa} (hn:ns.length≤60) (hx:uG x=true:=by rfl):gm l b ns (ay x (ba l) b ns):=by
 obtain⟨i,h,_⟩:=wE (x:=x) (l:=l) (b:=b) hn
 refine⟨i,l,_,_,h,ne l,(fun hb=>by rw[hb]; rfl),?_,?_,?_⟩
 ·split
  ·exact⟨[x],rfl⟩
  ·exact List.prefix_refl _
 ·split
  ·rename_i h
   rw[List.length_append,List.length_singleton]
   omega
  ·exact hn
 ·intro hs
  split
  ·unfold sm at hs ⊢
   rw[List.all_append,hs]
   simp[hx]
  ·exact hs
theorem LR {v:ax} (h:v.2.2.1.size≤100000):uG (nC v)=true:=by
 unfold uG
 rw[decide_eq_true h]
 rfl
theorem En {op:Int} {y:List Int} (h:y.length≤100000):uG (6,op,(0,0,(⟨#[]⟩:ByteArray),()),((0,0,()),false,false,()),((0,0,()),false,false,()),y,())=true:=by
 unfold uG
 rw[Bool.and_eq_true]
 exact⟨rfl,decide_eq_true h⟩
theorem iv {v:ax} {r:ByteArray} {b:Bool} {ns:List aa}:bD v r b ns=ay (nC v) r b ns:=by
 rw[yC]
 exact fQ
theorem wF {i:Int} {l:ac} {b:Bool} {ns:List aa} (hn:ns.length≤60):gm l b ns (some ((i,()),((ba l,ns,true,()),()))) :=
 ⟨i,l,true,ns,rfl,ne l,fun _=>rfl,List.prefix_refl _,hn,id⟩
theorem gH {l:ac} {c:UInt8} (h:l.head? = some c) : ∃ t,l=c :: t:=by
 cases l with
 | nil=>cases h
 | cons y t =>
  simp only[List.head?_cons,Option.some.injEq] at h
  exact⟨t,by rw[h]⟩
theorem nf {l:ac} {c:UInt8} (h:(bl l).head? = some c):((bl l).drop 1).length < l.length:=by
 have:=aB (ap l)
 obtain⟨t,ht⟩:=gH h
 rw[ht] at this ⊢
 simp only[List.length_cons,List.drop_succ_cons,List.drop_zero] at this ⊢
 omega
theorem gI (l:ac):(bl l).drop 1 <:+ l:=ae (fC 1 _) (ap l)
theorem JV (l:ac):(bl l).dropWhile aF <:+ l:=ae (List.dropWhile_suffix _) (ap l)
theorem FH (l:ac):(iL (bl l)).dropWhile aF <:+ l :=
 ae (List.dropWhile_suffix _) (ae (ap _) (ae (fC 1 _) (ae (ap _) (JV l))))
section
variable {n:Nat} (HB : ∀ l:ac,l.length < n → ∀(deep least:Int) (b:Bool) (ns:List aa),0≤deep→deep+(l.length:Int)≤400→ns.length≤60→gm l b ns (bh least deep (ba l) b ns))
include HB
theorem GU : ∀(m:Nat) (l:ac) (op deep:Int) (b:Bool) (kids:List Int) (ns:List aa),l.length=m→l.length < n→0≤deep→deep+1+(l.length:Int)≤400→kids.length+l.length≤10000→ns.length≤60→gm l b ns (bM op deep (ba l) b kids ns):=by
 intro m
 induction m using Nat.strongRecOn with
 | ind m ih =>
  intro l op deep b kids ns hm hln hd0 hd hk hn
  subst hm
  rw[g9]
  cases b with
  | true =>
   simp only[Bool.not_true,Bool.false_eq_true,if_false,fQ]
   exact eW hn (En (by omega))
  | false =>
   have tail : ∀(l2:ac) (b2:Bool) (ns2:List aa) (y:List Int),l2 <:+ l→ns <+: ns2→ns2.length≤60→y.length=kids.length+1→(sm ns=true→sm ns2=true) →
     gm l false ns ((aY (⟨#[44]⟩:ByteArray) (ba l2) b2 ns2).bind fun z3=>(if(!z3.1.1)=true then(if z3.2.1.2.2.1=true then((ay (6,op,(0,0,(⟨#[]⟩:ByteArray),()),((0,0,()),false,false,()),((0,0,()),false,false,()),y,()) z3.2.1.1 true z3.2.1.2.1).bind fun z4=>(some ((z4.1.1,()),(z4.2.1,())))) else((aY (⟨#[41]⟩:ByteArray) z3.2.1.1 z3.2.1.2.2.1 z3.2.1.2.1).bind fun z5=>((ay (6,op,(0,0,(⟨#[]⟩:ByteArray),()),((0,0,()),false,false,()),((0,0,()),false,false,()),y,()) z5.2.1.1 (!z5.1.1) z5.2.1.2.1).bind fun z6=>(some ((z6.1.1,()),(z6.2.1,())))))) else(bM op deep z3.2.1.1 z3.2.1.2.2.1 y z3.2.1.2.1))):=by
    intro l2 b2 ns2 y hs hp hn2 hy hsm
    have hl2:=aB hs
    rw[show(⟨#[44]⟩:ByteArray)=ba [44] from rfl,cC (by omega)]
    simp only[Option.bind_some,gv (c:=44) (.inr (.inr (.inr (.inl rfl)))),fQ,List.length_singleton]
    by_cases hc:(bl l2).head? = some 44
    ·have hlt:=nf hc
     simp only[hc,decide_true,Bool.not_true,Bool.false_eq_true,if_false,if_true]
     exact(ih _ (by omega) _ op deep b2 y ns2 rfl (by omega) hd0 (by omega) (by omega) hn2).mono (ae (gI l2) hs) (fun h=>by cases h) hp hsm
    ·simp only[hc,decide_false,Bool.not_false,if_true,if_false]
     have hbl:=aB (ap l2)
     cases b2 with
     | true =>
      simp only[if_true]
      exact(eW hn2 (En (by omega))).mono (ae (ap l2) hs) (fun h=>by cases h) hp hsm
     | false =>
      simp only[Bool.false_eq_true,if_false]
      rw[show(⟨#[41]⟩:ByteArray)=ba [41] from rfl,cC (by omega)]
      simp only[Option.bind_some,fQ]
      refine(eW hn2 (En (by omega))).mono ?_ (fun h=>by cases h) hp hsm
      split
      ·exact ae (ae (fC _ _) (ap _)) (ae (ap l2) hs)
      ·exact ae (ap _) (ae (ap l2) hs)
   simp only[Bool.not_false,if_true]
   rw[CE (by omega)]
   by_cases ha:yx (bl l)=true
   ·rw[if_pos ha]
    simp only[Option.bind_some,if_true]
    obtain⟨i2,l2,b2,ns2,h2,k1,k2,k3,k4,k5⟩:=eW (x:=nA (cu ((bl l).takeWhile aF)).1 (cu ((iL (bl l)).takeWhile aF)).1) (l:=(iL (bl l)).dropWhile aF) (b:=(false || !(cu ((iL (bl l)).takeWhile aF)).2)) hn
    rw[h2]
    simp only[Option.bind_some]
    rw[bG (by simp only[List.length_singleton]; omega)]
    exact tail _ _ _ _ (ae k1 (FH l)) k3 k4 (by simp) k5
   ·rw[if_neg ha]
    simp only[Option.bind_some,Bool.false_eq_true,if_false]
    rw[wr (by omega) (by omega)]
    obtain⟨i2,l2,b2,ns2,h2,k1,k2,k3,k4,k5⟩:=HB l hln (deep+1) 1 false ns (by omega) hd hn
    rw[h2]
    simp only[Option.bind_some]
    rw[bG (by simp only[List.length_singleton]; omega)]
    exact tail _ _ _ _ k1 k3 k4 (by simp) k5
theorem QK {l:ac} {op deep:Int} {b:Bool} {ns:List aa} (hln:l.length < n) (hd0:0≤deep) (hd:deep+1+(l.length:Int)≤400) (hn:ns.length≤60):gm l b ns (fL op deep (ba l) b ns):=by
 rw[oU]
 cases b with
 | true =>
  rw[if_pos rfl,zB]
  simp only[Bool.not_true,Bool.false_eq_true,if_false,fQ]
  exact eW hn (En (by simp))
 | false =>
  rw[if_neg (by decide),show(⟨#[40]⟩:ByteArray)=ba [40] from rfl,cC (by omega)]
  simp only[Option.bind_some]
  have hs:(if sg (bl l)=[40] then(bl l).drop ([40]:ac).length else bl l) <:+ l:=by
   split
   ·exact gI l
   ·exact ap l
  have:=aB hs
  exact(GU HB _ _ op deep _ [] ns rfl (by omega) hd0 (by omega) (by simp only[List.length_nil]; omega) hn).mono hs (fun h=>by cases h) (List.prefix_refl _)
theorem QL {deep:Int} {w r:ac} {b:Bool} {ns:List aa} (hln:ln.find? (fun k=>decide (dv k=w))≠none→r.length < n∧deep+1+(r.length:Int)≤400) (hd0:0≤deep) (hn:ns.length≤60):gm r b ns (eK deep w r b ns):=by
 unfold eK
 split
 ·rename_i hc
  rw[iv]
  exact eW hn (LR (Nat.le_trans (it (pU hc.1).1) (by decide)))
 ·split
  ·exact eW hn
  ·cases hf:ln.find? (fun k=>decide (dv k=w)) with
   | some k =>
    obtain⟨h1,h2⟩:=hln (by rw[hf]; simp)
    exact QK HB h1 hd0 h2 hn
   | none=>exact wF hn
end
end Go.Proofs.YtddiiceaindlhaaGreatDoor.Abs
set_option linter.unusedVariables false
set_option linter.unusedSimpArgs false
set_option linter.unusedSectionVars false
namespace Go.Proofs.YtddiiceaindlhaaGreatDoor.Abs
open Go
theorem LS {w:ac} (h:ln.find? (fun k=>decide (dv k=w))≠none) : ∃ k,ln.find? (fun k=>decide (dv k=w))=some k∧dv k=w∧k∈ln∧w≠[]:=by
 cases hf:ln.find? (fun k=>decide (dv k=w)) with
 | none=>exact absurd hf h
 | some k =>
  have h1:=List.find?_some hf
  have h2:=List.mem_of_find?_eq_some hf
  have h3:dv k=w:=by simpa using h1
  refine⟨k,rfl,h3,h2,?_⟩
  have : ∀ k∈ln,dv k≠[]:=by decide
  rw[←h3]
  exact this k h2
theorem LU {l:ac} (h:(bl l).takeWhile aF≠[]):((bl l).dropWhile aF).length < l.length:=by
 have h1:=aB (ap l)
 have h2:=congrArg List.length (List.takeWhile_append_dropWhile (p:=aF) (l:=bl l))
 rw[List.length_append] at h2
 have h3:=List.length_pos_iff.2 h
 omega
theorem Ng {l:ac} {b:Bool} {ns:List aa} (hl:l.length≤900) (hn:ns.length≤60):gm (34 :: l) b ns (i8 (ba (34 :: l)) b ns):=by
 rw[xM hl]
 cases hq:qt l with
 | none=>exact wF hn
 | some p =>
  obtain⟨h1,h2,_⟩:=O3 l p.1 p.2 hq
  show gm _ b ns (bD _ _ b ns)
  rw[iv]
  refine(eW hn (LR ?_)).mono (ae h1 ⟨[34],rfl⟩) id (List.prefix_refl _)
  show(ba ([]++p.1)).size≤_
  rw[aq]
  simp only[List.nil_append]
  omega
theorem GV (l:ac):(bl (35 :: l)).takeWhile aF=[]∧(bl (35 :: l)).dropWhile aF=35 :: l:=by
 have h1:bl (35 :: l)=35 :: l:=List.dropWhile_cons_of_neg (by decide)
 rw[h1]
 exact⟨List.takeWhile_cons_of_neg (by decide),List.dropWhile_cons_of_neg (by decide)⟩
theorem FI {deep:Int} {l:ac} {b:Bool} {ns:List aa} (hl:l.length≤800):dD deep 1 (ba (35 :: l)) b ns=match o8.find? (ga l) with
  | some n=>bD (vE n) (ba (l.drop (di n).length)) b ns
  | none=>some ((-1,()),((ba (35 :: l),ns,true,()),())):=by
 have h:=GS (deep:=deep) (l:=l) (b:=b) (ns:=ns) (by omega) o8 [] rfl
 have h:dD deep 1 (ba (35 :: l)) b ns=_:=h
 rw[h]
 cases o8.find? (ga l) with
 | some n=>rfl
 | none =>
  simp only
  rw[TZ (by rw[List.length_cons]; omega),(GV l).1,(GV l).2]
  have e1 : ¬((br []).2=true∧((br []).1.1=1∨(br []).1.1=3)):=by decide +kernel
  have e2 : ¬(cu []).2=true:=by decide +kernel
  have e3:ln.find? (fun k=>decide (dv k=[]))=none:=by decide +kernel
  unfold eK
  rw[if_neg e1,if_neg e2,e3]
theorem QM {l:ac} (HB : ∀ l':ac,l'.length < l.length → ∀(deep least:Int) (b:Bool) (ns:List aa),0≤deep→deep+(l'.length:Int)≤400→ns.length≤60→gm l' b ns (bh least deep (ba l') b ns))
  {deep:Int} {b:Bool} {ns:List aa} (hd0:0≤deep) (hd:deep+(l.length:Int)≤400) (hn:ns.length≤60):gm l b ns (fd deep (ba l) b ns):=by
 have hbl:=aB (ap l)
 rw[pX (by omega)]
 by_cases c1:(bl l).head? = some 34
 ·rw[if_pos c1]
  obtain⟨t,ht⟩:=gH c1
  have htl:t.length+1=(bl l).length:=by rw[ht]; simp
  rw[ht]
  exact(Ng (by omega) hn).mono (by rw[←ht]; exact ap l) id (List.prefix_refl _)
 ·rw[if_neg c1]
  by_cases c2:(bl l).head? = some 35
  ·rw[if_pos c2]
   obtain⟨t,ht⟩:=gH c2
   have htl:t.length+1=(bl l).length:=by rw[ht]; simp
   have hts:t <:+ l:=ae ⟨[35],by rw[ht]; rfl⟩ (ap l)
   rw[ht,FI (by omega)]
   cases o8.find? (ga t) with
   | some n =>
    simp only
    rw[iv]
    exact(eW hn (LR (by show eS.size≤_; decide))).mono (ae (fC _ _) hts) id (List.prefix_refl _)
   | none=>exact(wF hn).mono (by rw[←ht]; exact ap l) id (List.prefix_refl _)
  ·rw[if_neg c2]
   by_cases c3:(bl l).head? = some 40
   ·rw[if_pos c3]
    have hlt:=nf c3
    rw[wr (by omega) (by omega)]
    obtain⟨i2,l2,b2,ns2,h2,k1,k2,k3,k4,k5⟩:=HB _ hlt (deep+1) 1 b ns (by omega) (by omega) hn
    rw[h2]
    simp only[Option.bind_some]
    have hl2:=aB k1
    have hs2:l2 <:+ l:=ae k1 (gI l)
    cases b2 with
    | true =>
     simp only[if_true]
     exact⟨i2,l2,true,ns2,rfl,hs2,fun _=>rfl,k3,k4,k5⟩
    | false =>
     simp only[Bool.false_eq_true,if_false]
     rw[show(⟨#[41]⟩:ByteArray)=ba [41] from rfl,cC (by omega)]
     simp only[Option.bind_some]
     refine⟨i2,_,_,ns2,rfl,?_,(fun h=>by have:=k2 h; cases this),k3,k4,k5⟩
     split
     ·exact ae (ae (fC _ _) (ap _)) hs2
     ·exact ae (ap _) hs2
   ·rw[if_neg c3]
    refine(QL HB (fun h => ?_) hd0 hn).mono (JV l) id (List.prefix_refl _)
    obtain⟨k,_,_,_,hw⟩:=LS h
    have:=LU hw
    omega
theorem O8 : ∀(m:Nat) (l:ac),l.length=m→(∀ l':ac,l'.length < l.length → ∀(deep least:Int) (b:Bool) (ns:List aa),0≤deep→deep+(l'.length:Int)≤400→ns.length≤60→gm l' b ns (bh least deep (ba l') b ns)) →
  ∀(deep:Int) (b:Bool) (ns:List aa),0≤deep→deep+(l.length:Int)≤400→ns.length≤60→gm l b ns (eD deep (ba l) b ns):=by
 intro m
 induction m using Nat.strongRecOn with
 | ind m ih =>
  intro l hm HB deep b ns hd0 hd hn
  subst hm
  rw[jE,aE (by omega)]
  cases b with
  | true =>
   simp only[if_true]
   exact wF hn
  | false =>
   simp only[Bool.false_eq_true,if_false,fQ]
   rw[show(⟨#[45]⟩:ByteArray)=ba [45] from rfl,cC (by omega)]
   simp only[Option.bind_some,gv (c:=45) (.inl rfl),List.length_singleton]
   have hbl:=aB (ap l)
   by_cases hc:(bl l).head? = some 45
   ·have hlt:=nf hc
    simp only[hc,decide_true,if_true]
    rw[wr (by omega) (by omega)]
    obtain⟨i2,l2,b2,ns2,h2,k1,k2,k3,k4,k5⟩:=ih _ hlt _ rfl (fun l' h'=>HB l' (by omega)) (deep+1) false ns (by omega) (by omega) hn
    rw[h2]
    simp only[Option.bind_some]
    exact(eW k4).mono (ae k1 (gI l)) (fun h=>by cases h) k3 k5
   ·simp only[hc,decide_false,Bool.false_eq_true,if_false]
    exact(QM (l:=bl l) (fun l' h'=>HB l' (by omega)) hd0 (by omega) hn).mono (ap l) id (List.prefix_refl _)
theorem wG {least deep left:Int} {op:Int} {l:ac} {ns:List aa} (ho:0≤op) (ho2:op≤11) (hl:l.length≤900) (hs:op≠0→sg (bl l)=cZ op):cn least deep left op 12 (ba l) false ns =
  if op=0∨cg op < least then some ((left,()),((ba l,ns,false,()),()))
  else((bh (cg op+1) deep (ba ((bl l).drop (cZ op).length)) false ns).bind fun z7=>((ay (5,op,(0,0,(⟨#[]⟩:ByteArray),()),((0,0,()),false,false,()),((0,0,()),false,false,()),([left,z7.1.1]:(List Int)),()) z7.2.1.1 z7.2.1.2.2.1 z7.2.1.2.1).bind fun z8=>(cm least deep z8.1.1 z8.2.1.1 z8.2.1.2.2.1 z8.2.1.2.1))):=by
 rw[oW,aE (by decide)]
 by_cases h0:op=0
 ·rw[if_pos (by rw[h0]; rfl),if_pos (.inl h0)]
 ·have h0' : ¬(op == 0)=true:=by simpa using h0
  have hlv:1≤cg op∧cg op≤4:=by
   unfold cg
   repeat' split
   all_goals omega
  rw[if_neg h0',GQ (by omega) ho2]
  simp only[Option.bind_some]
  by_cases h1:cg op < least
  ·rw[aI h1,if_pos (.inr h1)]
  ·rw[aE h1,if_neg (by omega),xI ho ho2]
   simp only[Option.bind_some]
   rw[cC (by omega),hs h0]
   simp only[Option.bind_some,if_true]
   rw[wr (by omega) (by omega)]
theorem JW {l:ac} (h:dR (bl l)≠0):((bl l).drop (cZ (dR (bl l))).length).length < l.length:=by
 have h1:=aB (ap l)
 have h2:=pV h
 have h3:=AR (JL (bl l))
 have h4:1≤(cZ (dR (bl l))).length:=by
  have:=lm (bl l)
  have h5 : ∀ k:Fin 12,k.val≠0→1≤(cZ (k.val:Int)).length:=by decide
  have:=h5 ⟨(dR (bl l)).toNat,by omega⟩ (by simp only; omega)
  simp only[Int.toNat_of_nonneg (lm (bl l)).1] at this
  exact this
 rw[h2] at h3
 rw[List.length_drop]
 omega
theorem xN : ∀(m:Nat) (l:ac),l.length=m→(∀ l':ac,l'.length < l.length → ∀(deep least:Int) (b:Bool) (ns:List aa),0≤deep→deep+(l'.length:Int)≤400→ns.length≤60→gm l' b ns (bh least deep (ba l') b ns)) →
  ∀(least deep left:Int) (b:Bool) (ns:List aa),0≤deep→deep+(l.length:Int)≤400→ns.length≤60→gm l b ns (cm least deep left (ba l) b ns):=by
 intro m
 induction m using Nat.strongRecOn with
 | ind m ih =>
  intro l hm HB least deep left b ns hd0 hd hn
  subst hm
  rw[fe]
  cases b with
  | true=>exact wF hn
  | false =>
   simp only[Bool.not_false,if_true]
   have hbl:=aB (ap l)
   obtain⟨o1,o2⟩:=lm (bl l)
   rw[tA (by omega),wG o1 o2 (by omega) (fun h=>by rw[dq]; exact pV h),dq]
   split
   ·exact⟨left,bl l,false,ns,rfl,ap l,fun h=>h,List.prefix_refl _,hn,id⟩
   ·rename_i hop
    have hop':dR (bl l)≠0:=fun e=>hop (.inl e)
    have hlt:=JW hop'
    obtain⟨i2,l2,b2,ns2,h2,k1,k2,k3,k4,k5⟩:=HB _ hlt deep (cg (dR (bl l))+1) false ns hd0 (by omega) hn
    rw[h2]
    simp only[Option.bind_some]
    obtain⟨i3,l3,b3,ns3,h3,j1,j2,j3,j4,j5⟩:=eW (x:=(5,dR (bl l),(0,0,(⟨#[]⟩:ByteArray),()),((0,0,()),false,false,()),((0,0,()),false,false,()),([left,i2]:(List Int)),())) (l:=l2) (b:=b2) k4
    rw[h3]
    simp only[Option.bind_some]
    have hs2:=aB k1
    have hs3:=aB j1
    exact(ih _ (by omega) l3 rfl (fun l' h'=>HB l' (by omega)) least deep i3 b3 ns3 hd0 (by omega) j4).mono (ae j1 (ae k1 (ae (fC _ _) (ap l)))) (fun h=>by cases h) (List.IsPrefix.trans k3 j3) (fun h=>j5 (k5 h))
theorem Nh : ∀(m:Nat) (l:ac),l.length=m → ∀(deep least:Int) (b:Bool) (ns:List aa),0≤deep→deep+(l.length:Int)≤400→ns.length≤60→gm l b ns (bh least deep (ba l) b ns):=by
 intro m
 induction m using Nat.strongRecOn with
 | ind m ih =>
  intro l hm deep least b ns hd0 hd hn
  subst hm
  have HB : ∀ l':ac,l'.length < l.length → ∀(deep least:Int) (b:Bool) (ns:List aa),0≤deep→deep+(l'.length:Int)≤400→ns.length≤60→gm l' b ns (bh least deep (ba l') b ns) :=
   fun l' h' deep least b ns d0 d1 hn=>ih _ h' l' rfl deep least b ns d0 d1 hn
  rw[me]
  obtain⟨i2,l2,b2,ns2,h2,k1,k2,k3,k4,k5⟩:=O8 _ l rfl HB deep b ns hd0 hd hn
  rw[h2]
  simp only[Option.bind_some]
  have hs2:=aB k1
  exact(xN _ l2 rfl (fun l' h'=>HB l' (by omega)) least deep i2 b2 ns2 hd0 (by omega) k4).mono k1 k2 k3 k5
end Go.Proofs.YtddiiceaindlhaaGreatDoor.Abs
set_option linter.unusedVariables false
set_option linter.unusedSimpArgs false
set_option linter.unusedSectionVars false
namespace Go.Proofs.YtddiiceaindlhaaGreatDoor.Abs
open Go
abbrev RS:=Option ((Int×Unit)×(kb×Unit))
def dx (ns:List aa):Bool:=ns.all bH
theorem O9 {ns ns':List aa} (h:ns <+: ns') (k:dx ns=false):dx ns'=false:=by
 obtain⟨r,rfl⟩:=h
 unfold dx at k ⊢
 rw[List.all_append,k]
 rfl
def Dm (b:Bool) (ns:List aa):Prop:=(b=true∨dx ns=false)∧sm ns=true
theorem GW {x:aa} (h:bH x=true):uG x=true:=by
 have:x.2.2.1.2.2.1.size≤100000∧x.2.2.2.2.2.1.length≤100000:=by
  unfold bH kl at h
  split at h
  ·simp only[Bool.and_eq_true,decide_eq_true_eq] at h
   have:=it h.1.1.2
   omega
  ·split at h
   ·simp only[Bool.and_eq_true,decide_eq_true_eq] at h
    rw[h.1.1.1.2]
    exact⟨by decide,by omega⟩
   ·split at h
    ·simp only[Bool.and_eq_true,decide_eq_true_eq] at h
     rw[h.1.1.2]
     exact⟨by decide,by omega⟩
    ·split at h
     ·simp only[Bool.and_eq_true,decide_eq_true_eq] at h
      rw[h.1.1.1.2]
      exact⟨by decide,by omega⟩
     ·split at h
      ·simp only[Bool.and_eq_true,decide_eq_true_eq] at h
       rw[h.1.1.1.2]
       exact⟨by decide,by omega⟩
      ·split at h
       ·simp only[Bool.and_eq_true,decide_eq_true_eq] at h
        rw[h.1.1.2]
        refine⟨by decide,?_⟩
        have h2:=h.1.1.1
        unfold jW at h2
        split at h2
        ·simp only[Bool.or_eq_true,decide_eq_true_eq] at h2
         omega
        ·split at h2
         ·have:=bd.1 h2
          omega
         ·split at h2
          ·simp only[decide_eq_true_eq] at h2
           omega
          ·cases h2
       ·cases h
 unfold uG
 rw[decide_eq_true this.1,decide_eq_true this.2]
 rfl
theorem tC {ns:List aa} (h:dx ns=true):sm ns=true:=by
 unfold dx at h
 unfold sm
 rw[List.all_eq_true] at h ⊢
 exact fun x hx=>GW (h x hx)
theorem Eo {ns:List aa} (h:dx ns=true):Dm true ns:=⟨.inl rfl,tC h⟩
theorem gm.dm {l:ac} {b:Bool} {ns:List aa} {F:RI} (h:gm l b ns F) (hd:Dm b ns) : ∃(i:Int) (l':ac) (b':Bool) (ns':List aa),F=some ((i,()),((ba l',ns',b',()),()))∧l' <:+ l∧Dm b' ns'∧ns'.length≤60:=by
 obtain⟨i,l',b',ns',e,k1,k2,k3,k4,k5⟩:=h
 exact⟨i,l',b',ns',e,k1,⟨hd.1.elim (fun h => .inl (k2 h)) (fun h => .inr (O9 k3 h)),k5 hd.2⟩,k4⟩
def mD (s m:ac) (L:Int) (F:RI) (G:RS):Prop :=
 (∃(i:Int) (l1 l2:ac) (ns:List aa),F=some ((i,()),((ba l1,ns,false,()),()))∧G=some ((i,()),((ba s,bE s l2,false,ns,()),()))∧bl l1=bl l2∧l1 <:+ m∧l2 <:+ m∧dx ns=true∧ns.length≤60∧(dR (bl l1)=0∨cg (dR (bl l1)) < L))
 ∨ (∃(i:Int) (l1:ac) (b1:Bool) (ns1:List aa) (j:Int) (l2:ac) (ns2:List aa),F=some ((i,()),((ba l1,ns1,b1,()),()))∧Dm b1 ns1∧l1 <:+ m∧ns1.length≤60∧G=some ((j,()),((ba s,bE s l2,true,ns2,()),()))∧l2 <:+ s∧ns2.length≤61+m.length)
theorem Ni (k:Int):cg k < 5:=by
 unfold cg
 repeat' split
 all_goals omega
theorem mD.mono {s m m':ac} {L:Int} {F:RI} {G:RS} (h:mD s m L F G) (hm:m <:+ m'):mD s m' L F G:=by
 have:=aB hm
 rcases h with⟨i,l1,l2,ns,e1,e2,h1,h2,h3,h4,h5,h6⟩ | ⟨i,l1,b1,ns1,j,l2,ns2,e1,h1,h2,h3,e2,h4,h5⟩
 ·exact .inl ⟨i,l1,l2,ns,e1,e2,h1,ae h2 hm,ae h3 hm,h4,h5,h6⟩
 ·exact .inr ⟨i,l1,b1,ns1,j,l2,ns2,e1,h1,ae h2 hm,h3,e2,h4,by omega⟩
theorem LV {ns:List aa} {x:aa} (h:sm ns=true) (hx:uG x=true):sm (ns++[x])=true:=by
 unfold sm at h ⊢
 rw[List.all_append,h]
 simp[hx]
theorem JX {x:aa} (h:uG x=true):x.2.2.1.2.2.1.size≤9223372036854775807:=by
 unfold uG at h
 rw[Bool.and_eq_true,decide_eq_true_eq] at h
 exact Nat.le_trans h.1 (by decide)
theorem pY {s m l1 l2:ac} {x:aa} {ns:List aa} (hsx:uG x=true) (h1:bl l1=bl l2) (k1:l1 <:+ m) (k2:l2 <:+ m) (hms:m <:+ s) (ho:dx ns=true) (hn:ns.length≤60) :
  mD s m 5 (ay x (ba l1) false ns) (b7 x (ba s) (bE s l2) false ns):=by
 have hx:=JX hsx
 obtain⟨i,e,hi⟩:=wE (x:=x) (l:=l1) (b:=false) hn
 rw[e,FE (by omega) hx]
 by_cases hlt:ns.length < 60
 ·have hi:=hi rfl hlt
  subst hi
  have d60:decide (60≤ns.length)=false:=decide_eq_false (by omega)
  rw[d60,if_pos ⟨rfl,hlt⟩]
  simp only[Bool.false_or]
  cases hk:bH x with
  | true =>
   refine .inl ⟨_,l1,l2,ns++[x],rfl,rfl,h1,k1,k2,?_,?_,.inr (Ni _)⟩
   ·unfold dx at ho ⊢
    rw[List.all_append,ho]
    simp[hk]
   ·rw[List.length_append,List.length_singleton]; omega
  | false =>
   refine .inr ⟨_,l1,false,ns++[x],(ns.length:Int),l2,ns++[x],rfl,⟨.inr ?_,LV (tC ho) hsx⟩,k1,?_,rfl,ae k2 hms,?_⟩
   ·unfold dx
    rw[List.all_append]
    simp[hk]
   ·rw[List.length_append,List.length_singleton]; omega
   ·rw[List.length_append,List.length_singleton]; omega
 ·have d60:decide (60≤ns.length)=true:=decide_eq_true (by omega)
  rw[d60,if_neg (by omega)]
  refine .inr ⟨i,l1,true,ns,(ns.length:Int),l2,ns++[x],rfl,Eo ho,k1,hn,?_,ae k2 hms,?_⟩
  ·simp
  ·rw[List.length_append,List.length_singleton]; omega
theorem JY {s:ac} {a:Int} {x:aa} {ns:List aa} (hn:ns.length≤1000) (hx:x.2.2.1.2.2.1.size≤9223372036854775807):b7 x (ba s) a true ns=some (((ns.length:Int),()),((ba s,a,true,ns++[x],()),())):=by
 rw[FE hn hx]
 rfl
theorem Nj {op:Int} {s:ByteArray} {a:Int} {b:Bool} {ns:List aa} {kids:List Int}:re op s a b ns kids=cS op s a b kids ns:=by
 rw[Ct,mg]
theorem GX {op:Int} {s:ByteArray} {a:Int} {ns:List aa} {kids:List Int}:cS op s a true kids ns=some ((0,()),((s,a,true,ns,()),())):=by
 rw[mg]
 rfl
abbrev nF (op:Int) (kids:List Int):aa:=(6,op,(0,0,(⟨#[]⟩:ByteArray),()),((0,0,()),false,false,()),((0,0,()),false,false,()),kids,())
noncomputable def xO (op deep:Int) (y:List Int) (r:ByteArray) (b:Bool) (ns:List aa):RI :=
 (aY (⟨#[44]⟩:ByteArray) r b ns).bind fun z3=>(if(!z3.1.1)=true then(if z3.2.1.2.2.1=true then((ay (nF op y) z3.2.1.1 true z3.2.1.2.1).bind fun z4=>(some ((z4.1.1,()),(z4.2.1,())))) else((aY (⟨#[41]⟩:ByteArray) z3.2.1.1 z3.2.1.2.2.1 z3.2.1.2.1).bind fun z5=>((ay (nF op y) z5.2.1.1 (!z5.1.1) z5.2.1.2.1).bind fun z6=>(some ((z6.1.1,()),(z6.2.1,())))))) else(bM op deep z3.2.1.1 z3.2.1.2.2.1 y z3.2.1.2.1))
theorem K7 {op deep:Int} {l:ac} {kids:List Int} {ns:List aa} (hl:l.length≤900):bM op deep (ba l) false kids ns =
  if yx (bl l)=true then(ay (nA (cu ((bl l).takeWhile aF)).1 (cu ((iL (bl l)).takeWhile aF)).1) (ba ((iL (bl l)).dropWhile aF)) (!(cu ((iL (bl l)).takeWhile aF)).2) ns).bind fun z2=>(app kids ([z2.1.1]:(List Int)) 8 fun y1=>xO op deep y1 z2.2.1.1 z2.2.1.2.2.1 z2.2.1.2.1)
  else(bh 1 (IntKind.i64.wrap (deep+1)) (ba l) false ns).bind fun z7=>(app kids ([z7.1.1]:(List Int)) 8 fun y2=>xO op deep y2 z7.2.1.1 z7.2.1.2.2.1 z7.2.1.2.1):=by
 rw[g9]
 simp only[Bool.not_false,if_true]
 rw[CE hl]
 by_cases ha:yx (bl l)=true
 ·rw[if_pos ha,if_pos ha]
  simp only[Option.bind_some,if_true,Bool.false_or]
  rfl
 ·rw[if_neg ha,if_neg ha]
  simp only[Option.bind_some,Bool.false_eq_true,if_false]
  rfl
theorem AW : ∀(l:ac),∀(deep least:Int) (b:Bool) (ns:List aa),0≤deep→deep+(l.length:Int)≤400→ns.length≤60→gm l b ns (bh least deep (ba l) b ns):=fun l=>Nh _ l rfl
theorem xP {op deep:Int} {y:List Int} {l:ac} {b:Bool} {ns:List aa} (hd0:0≤deep) (hd:deep+1+(l.length:Int)≤400) (hy:y.length+l.length≤9000) (hn:ns.length≤60):gm l b ns (xO op deep y (ba l) b ns):=by
 have hbl:=aB (ap l)
 unfold xO
 rw[show(⟨#[44]⟩:ByteArray)=ba [44] from rfl,cC (by omega)]
 simp only[Option.bind_some,fQ]
 by_cases hc:sg (bl l)=[44]
 ·have hc':(bl l).head? = some 44:=by rw[←gv (c:=44) (.inr (.inr (.inr (.inl rfl))))]; exact hc
  have hlt:=nf hc'
  simp only[hc,decide_true,Bool.not_true,Bool.false_eq_true,if_false,if_true,List.length_singleton]
  exact(GU (n:=l.length+1) (fun l' _ deep least b ns d0 d1 hn=>AW l' deep least b ns d0 d1 hn) _ _ op deep b y ns rfl (by omega) hd0 (by omega) (by omega) hn).mono (gI l) id (List.prefix_refl _)
 ·simp only[hc,decide_false,Bool.not_false,if_true,if_false]
  cases b with
  | true =>
   simp only[if_true]
   exact(eW hn (En (by omega))).mono (ap l) (fun _=>rfl) (List.prefix_refl _)
  | false =>
   simp only[Bool.false_eq_true,if_false]
   rw[show(⟨#[41]⟩:ByteArray)=ba [41] from rfl,cC (by omega)]
   simp only[Option.bind_some,fQ]
   refine(eW hn (En (by omega))).mono ?_ (fun h=>by cases h) (List.prefix_refl _)
   split
   ·exact ae (ae (fC _ _) (ap _)) (ap l)
   ·exact ae (ap _) (ap l)
noncomputable def AX (op:Int) (y:List Int) (s:ByteArray) (a:Int) (b:Bool) (ns:List aa):RS :=
 (dK (⟨#[41]⟩:ByteArray) s a b ns).bind fun z2=>(if z2.1.1=true then((b7 (nF op y) z2.2.1.1 z2.2.1.2.1 z2.2.1.2.2.1 z2.2.1.2.2.2.1).bind fun z3=>(some ((z3.1.1,()),(z3.2.1,())))) else((dK (⟨#[44]⟩:ByteArray) z2.2.1.1 z2.2.1.2.1 z2.2.1.2.2.1 z2.2.1.2.2.2.1).bind fun z4=>(if(!z4.1.1)=true then(cS op z4.2.1.1 z4.2.1.2.1 true y z4.2.1.2.2.2.1) else(cS op z4.2.1.1 z4.2.1.2.1 z4.2.1.2.2.1 y z4.2.1.2.2.2.1))))
theorem uH {op:Int} {y:List Int} {s l:ac} {ns:List aa} (hs:s.length≤900) (h:l <:+ s) : ∃ l',l' <:+ s∧AX op y (ba s) (bE s l) true ns=some ((0,()),((ba s,bE s l',true,ns,()),())):=by
 unfold AX
 rw[show(⟨#[41]⟩:ByteArray)=ba [41] from rfl,g7 (by omega) (by decide) h]
 simp only[Option.bind_some,Bool.not_true,Bool.false_and,Bool.false_eq_true,if_false]
 rw[show(⟨#[44]⟩:ByteArray)=ba [44] from rfl,g7 (by omega) (by decide) (ae (ap l) h)]
 simp only[Option.bind_some,Bool.not_true,Bool.false_and,Bool.false_eq_true,if_false,Bool.not_false,if_true]
 exact⟨bl (bl l),ae (ap _) (ae (ap l) h),GX⟩
theorem K8 {op:Int} {s l:ac} {kids:List Int} {ns:List aa}:cS op (ba s) (bE s l) false kids ns=(qC (ba s) (bE s l) false ns).bind fun z1=>(app kids ([z1.1.1]:(List Int)) 8 fun y1=>AX op y1 z1.2.1.1 z1.2.1.2.1 z1.2.1.2.2.1 z1.2.1.2.2.2.1):=by
 rw[mg]
 rfl
theorem Sf {s l:ac} {ns:List aa} (hs:s.length≤900) (h:l <:+ s):qC (ba s) (bE s l) false ns =
  if yx (bl l)=true then(if(cu ((iL (bl l)).takeWhile aF)).2=true then b7 (nA (cu ((bl l).takeWhile aF)).1 (cu ((iL (bl l)).takeWhile aF)).1) (ba s) (bE s ((iL (bl l)).dropWhile aF)) false ns
   else some ((0,()),((ba s,bE s ((iL (bl l)).dropWhile aF),true,ns,()),())))
  else eQ 1 (ba s) (bE s (bl l)) false ns:=by
 have hm:=ae (ap l) h
 have hr:=ae (JV l) h
 have hsl:=aB h
 have h1:=aB (ap l)
 have h2:=lp aF (bl l)
 have h3:=aB (FH l)
 rw[Jl,JN (by omega) h]
 simp only[Option.bind_some]
 rw[CC (by omega) hm]
 simp only[Option.bind_some]
 rw[rg (by omega)]
 simp only[Option.bind_some]
 unfold yx
 cases hp:(cu ((bl l).takeWhile aF)).2 with
 | false=>simp only[Bool.false_and,Bool.false_eq_true,if_false,gl]
 | true =>
  simp only[if_true,Bool.true_and]
  rw[show(⟨#[58]⟩:ByteArray)=ba [58] from rfl,g7 (by omega) (by decide) hr]
  simp only[Option.bind_some,Bool.not_false,Bool.true_and,Cx]
  by_cases hc:(bl ((bl l).dropWhile aF)).head? = some 58
  ·simp only[hc,decide_true,if_true,List.length_singleton]
   have hq:(bl ((bl l).dropWhile aF)).drop 1 <:+ s:=ae (gI _) hr
   rw[JN (by omega) hq]
   simp only[Option.bind_some]
   have hq2:iL (bl l) <:+ s:=ae (ap _) hq
   rw[show bl ((bl ((bl l).dropWhile aF)).drop 1)=iL (bl l) from rfl,CC (by omega) hq2]
   simp only[Option.bind_some]
   have h4:=lp aF (iL (bl l))
   have h5:=aB hq2
   rw[rg (by omega)]
   simp only[Option.bind_some,gl]
   cases (cu ((iL (bl l)).takeWhile aF)).2 <;> simp
  ·simp only[hc,decide_false,Bool.false_eq_true,if_false,gl]
end Go.Proofs.YtddiiceaindlhaaGreatDoor.Abs
set_option linter.unusedVariables false
set_option linter.unusedSimpArgs false
set_option linter.unusedSectionVars false
namespace Go.Proofs.YtddiiceaindlhaaGreatDoor.Abs
open Go
theorem pZ {s m m':ac} {L L':Int} {F:RI} {G:RS} {K:(Int×Unit)×(pE×Unit)→RI} {K':(Int×Unit)×(kb×Unit)→RS} (h:mD s m L F G)
  (hg : ∀(i:Int) (l1 l2:ac) (ns:List aa),bl l1=bl l2→l1 <:+ m→l2 <:+ m→dx ns=true→ns.length≤60→(dR (bl l1)=0∨cg (dR (bl l1)) < L)→mD s m' L' (K ((i,()),((ba l1,ns,false,()),()))) (K' ((i,()),((ba s,bE s l2,false,ns,()),()))))
  (hd : ∀(i:Int) (l1:ac) (b1:Bool) (ns1:List aa) (j:Int) (l2:ac) (ns2:List aa),Dm b1 ns1→l1 <:+ m→ns1.length≤60→l2 <:+ s→ns2.length≤61+m.length→mD s m' L' (K ((i,()),((ba l1,ns1,b1,()),()))) (K' ((j,()),((ba s,bE s l2,true,ns2,()),())))) :
  mD s m' L' (F.bind K) (G.bind K'):=by
 rcases h with⟨i,l1,l2,ns,rfl,rfl,h1,h2,h3,h4,h5,h6⟩ | ⟨i,l1,b1,ns1,j,l2,ns2,rfl,h1,h2,h3,rfl,h4,h5⟩
 ·exact hg i l1 l2 ns h1 h2 h3 h4 h5 h6
 ·exact hd i l1 b1 ns1 j l2 ns2 h1 h2 h3 h4 h5
theorem iJ {s m:ac} {L:Int} {F:RI} {G:RS} {l1:ac} {b1:Bool} {ns1:List aa} {j:Int} {l2:ac} {ns2:List aa} (hF:gm l1 b1 ns1 F) (hd:Dm b1 ns1) (h1:l1 <:+ m) (hG:G=some ((j,()),((ba s,bE s l2,true,ns2,()),()))) (h2:l2 <:+ s) (h3:ns2.length≤61+m.length):mD s m L F G:=by
 obtain⟨i,l',b',ns',e,k1,k2,k3⟩:=hF.dm hd
 exact .inr ⟨i,l',b',ns',j,l2,ns2,e,k2,ae k1 h1,k3,hG,h2,h3⟩
def Pa (s:ac) (n:Nat):Prop := ∀(l l0:ac),bl l=bl l0→l <:+ s→l0 <:+ s→(bl l).length < n → ∀(L deep:Int) (ns:List aa),1≤L→L≤5→0≤deep→deep+((bl l).length:Int)≤200→dx ns=true→ns.length≤60 →
 mD s (bl l) L (bh L deep (ba l) false ns) (eQ L (ba s) (bE s l0) false ns)
theorem jI {c:UInt8} {l:ac}:([c]:ac).isPrefixOf l=decide (l.head? = some c):=Cx c l
theorem QN {s:ac} (hs:s.length≤200) {n:Nat} (HB:Pa s n) : ∀(k:Nat) (l1 l2:ac),(bl l1).length=k→bl l1=bl l2→l1 <:+ s→l2 <:+ s→(bl l1).length < n → ∀(op deep:Int) (kids:List Int) (ns:List aa),0≤deep→deep+1+((bl l1).length:Int)≤200→kids.length+(bl l1).length≤1000→dx ns=true→ns.length≤60 →
  mD s (bl l1) 5 (bM op deep (ba l1) false kids ns) (cS op (ba s) (bE s l2) false kids ns):=by
 intro k
 induction k using Nat.strongRecOn with
 | ind k ih =>
  intro l1 l2 hk hb hs1 hs2 hn op deep kids ns hd0 hd hkl ho hns
  subst hk
  have hl1:=aB hs1
  have hm1:=aB (ap l1)
  have hms:bl l1 <:+ s:=ae (ap l1) hs1
  rw[K7 (by omega),K8,Sf (by omega) hs2,←hb]
  have doom : ∀(y:List Int) (x1:ac) (b1:Bool) (ns1:List aa) (x2:ac) (ns2:List aa),y.length=kids.length+1→Dm b1 ns1→x1 <:+ bl l1→ns1.length≤60→x2 <:+ s→ns2.length≤61+(bl l1).length →
    mD s (bl l1) 5 (xO op deep y (ba x1) b1 ns1) (AX op y (ba s) (bE s x2) true ns2):=by
   intro y x1 b1 ns1 x2 ns2 hy hdm hx1 hn1 hx2 hn2
   have hlx:=aB hx1
   obtain⟨l',h1,h2⟩:=uH (op:=op) (y:=y) (ns:=ns2) (by omega) hx2
   exact iJ (xP hd0 (by omega) (by omega) hn1) hdm hx1 h2 h1 hn2
  have good : ∀(y:List Int) (x1 x2:ac) (ns:List aa),y.length=kids.length+1→bl x1=bl x2→x1 <:+ bl l1→x2 <:+ bl l1→dx ns=true→ns.length≤60 →
    mD s (bl l1) 5 (xO op deep y (ba x1) false ns) (AX op y (ba s) (bE s x2) false ns):=by
   intro y x1 x2 ns hy hbx hx1 hx2 ho hn
   have hlx:=aB hx1
   have hblx:=aB (ap x1)
   have hx2s:=ae hx2 hms
   have c41 : ¬(41:UInt8)=44:=by decide
   have c44 : ¬(44:UInt8)=41:=by decide
   unfold xO AX
   rw[show(⟨#[44]⟩:ByteArray)=ba [44] from rfl,show(⟨#[41]⟩:ByteArray)=ba [41] from rfl,cC (by omega),g7 (by omega) (by decide) hx2s]
   simp only[Option.bind_some,gv (c:=44) (.inr (.inr (.inr (.inl rfl)))),fQ,gl,List.length_singleton,Bool.not_false,Bool.true_and,jI,←hbx]
   by_cases h44:(bl x1).head? = some 44
   ·have h41 : ¬(bl x1).head? = some 41:=by rw[h44]; simp
    simp only[h44,h41,decide_true,decide_false,Bool.not_true,Bool.false_eq_true,if_false,if_true,Option.some.injEq,c44]
    rw[g7 (by omega) (by decide) (ae (ap x1) (ae hx1 hms))]
    simp only[Option.bind_some,Bool.not_false,Bool.true_and,jI,dq,h44,decide_true,if_true,Bool.not_true,Bool.false_eq_true,if_false,List.length_singleton]
    have hlt:=nf h44
    have hb2:=aB (ap ((bl x1).drop 1))
    have hsx:(bl x1).drop 1 <:+ bl l1:=ae (gI x1) hx1
    exact(ih _ (by omega) _ _ rfl rfl (ae hsx hms) (ae hsx hms) (by omega) op deep y ns hd0 (by omega) (by omega) ho hn).mono (ae (ap _) hsx)
   ·simp only[h44,decide_false,Bool.not_false,if_true,if_false,Bool.false_eq_true]
    rw[cC (by omega)]
    simp only[Option.bind_some,gv (c:=41) (.inr (.inr (.inl rfl))),dq,List.length_singleton]
    by_cases h41:(bl x1).head? = some 41
    ·simp only[h41,decide_true,if_true,Bool.not_true]
     have hsx:(bl x1).drop 1 <:+ bl l1:=ae (gI x1) hx1
     exact pY (En (by omega)) rfl hsx hsx hms ho hn
    ·simp only[h41,decide_false,if_false,Bool.not_false,Bool.false_eq_true]
     rw[g7 (by omega) (by decide) (ae (ap x1) (ae hx1 hms))]
     simp only[Option.bind_some,Bool.not_false,Bool.true_and,jI,dq,h44,decide_false,if_true,Bool.false_eq_true,if_false]
     have hsx:bl x1 <:+ bl l1:=ae (ap x1) hx1
     exact iJ (eW hn (En (by omega))) (Eo ho) hsx GX (ae hsx hms) (by omega)
  by_cases ha:yx (bl l1)=true
  ·rw[if_pos ha,if_pos ha]
   have hX:(iL (bl l1)).dropWhile aF <:+ bl l1:=by
    have:=FH (bl l1)
    rw[dq] at this
    exact this
   cases h2:(cu ((iL (bl l1)).takeWhile aF)).2 with
   | true =>
    simp only[Bool.not_true,if_true]
    refine pZ (pY (m:=bl l1) rfl rfl hX hX hms ho hns) ?_ ?_
    ·intro i x1 x2 ns' e1 e2 e3 e4 e5 _
     simp only
     rw[bG (by simp only[List.length_singleton]; omega),bG (by simp only[List.length_singleton]; omega)]
     exact good _ _ _ _ (by simp) e1 e2 e3 e4 e5
    ·intro i x1 b1 ns1 j x2 ns2 e1 e2 e3 e4 e5
     simp only
     rw[bG (by simp only[List.length_singleton]; omega),bG (by simp only[List.length_singleton]; omega)]
     have:kids++[i]=kids++[i]:=rfl
     by_cases hij:i=j
     ·subst hij
      exact doom _ _ _ _ _ _ (by simp) e1 e2 e3 e4 e5
     ·obtain⟨l',h1,h2⟩:=uH (op:=op) (y:=kids++[j]) (ns:=ns2) (by omega) e4
      have hlx:=aB e2
      exact iJ (xP hd0 (by omega) (by simp only[List.length_append,List.length_singleton]; omega) e3) e1 e2 h2 h1 e5
   | false =>
    simp only[Bool.not_false,Bool.false_eq_true,if_false]
    obtain⟨i,h3,_⟩:=wE (x:=nA (cu ((bl l1).takeWhile aF)).1 (cu ((iL (bl l1)).takeWhile aF)).1) (l:=(iL (bl l1)).dropWhile aF) (b:=true) hns
    rw[h3]
    simp only[Option.bind_some,Bool.true_eq_false,false_and,if_false,Bool.true_or]
    rw[bG (by simp only[List.length_singleton]; omega),bG (by simp only[List.length_singleton]; omega)]
    obtain⟨l',h1,h2⟩:=uH (op:=op) (y:=kids++[0]) (ns:=ns) (by omega) (ae hX hms)
    have hlx:=aB hX
    exact iJ (xP hd0 (by omega) (by simp only[List.length_append,List.length_singleton]; omega) hns) (Eo ho) hX h2 h1 (by omega)
  ·rw[if_neg ha,if_neg ha,wr (by omega) (by omega)]
   refine pZ (HB l1 (bl l1) (dq l1).symm hs1 hms hn 1 (deep+1) ns (by decide) (by decide) (by omega) (by omega) ho hns) ?_ ?_
   ·intro i x1 x2 ns' e1 e2 e3 e4 e5 _
    simp only
    rw[bG (by simp only[List.length_singleton]; omega),bG (by simp only[List.length_singleton]; omega)]
    exact good _ _ _ _ (by simp) e1 e2 e3 e4 e5
   ·intro i x1 b1 ns1 j x2 ns2 e1 e2 e3 e4 e5
    simp only
    rw[bG (by simp only[List.length_singleton]; omega),bG (by simp only[List.length_singleton]; omega)]
    obtain⟨l',h1,h2⟩:=uH (op:=op) (y:=kids++[j]) (ns:=ns2) (by omega) e4
    have hlx:=aB e2
    exact iJ (xP hd0 (by omega) (by simp only[List.length_append,List.length_singleton]; omega) e3) e1 e2 h2 h1 e5
end Go.Proofs.YtddiiceaindlhaaGreatDoor.Abs
set_option linter.unusedVariables false
set_option linter.unusedSimpArgs false
set_option linter.unusedSectionVars false
namespace Go.Proofs.YtddiiceaindlhaaGreatDoor.Abs
open Go
theorem GY {p:UInt8→Bool} {c:UInt8} : ∀ {l:ac},c∈l.takeWhile p→p c=true
 | [],h=>by simp at h
 | x :: l,h=>by
  cases hx:p x with
  | true =>
   rw[List.takeWhile_cons_of_pos hx] at h
   rcases List.mem_cons.1 h with rfl | h
   ·exact hx
   ·exact GY h
  | false =>
   rw[List.takeWhile_cons_of_neg (by rw[hx]; decide)] at h
   cases h
theorem QO {w:ac} (hw : ∀ c∈w,aF c=true) (h:(br w).2=true):(w≠[])↔((br w).1.1=1∨(br w).1.1=3):=by
 constructor
 ·intro hne
  obtain⟨k1,k2⟩:=pU h
  rcases qp k1 with e | ⟨n,e,_⟩ | ⟨t,e⟩ | ⟨b,e⟩ | ⟨n,e,h0⟩
  ·rw[e] at k2
   exact absurd (qS (b:=[]) k2.symm) hne
  ·rw[e]; exact .inl rfl
  ·rw[e] at k2
   exfalso
   have e2:w=39 :: lb t:=by
    have:ba w=ba (39 :: lb t):=by
     rw[←k2]
     show(⟨#[39]⟩:ByteArray)++t=_
     rw[←f0 t,show(⟨#[39]⟩:ByteArray)=ba [39] from rfl,mC,dw]
     rfl
    exact qS this
   exact absurd (hw 39 (by rw[e2]; simp)) (by decide)
  ·rw[e]; exact .inr rfl
  ·rw[e] at k2
   exfalso
   have f : ∀ n:Fin 6,1≤n.val→c8 (n.val:Int)=ba (35 :: di (n.val:Int)):=by decide +kernel
   have e2:w=35 :: di (n.val:Int):=by
    have:ba w=ba (35 :: di (n.val:Int)):=by
     rw[←k2]
     exact f n h0
    exact qS this
   exact absurd (hw 35 (by rw[e2]; simp)) (by decide)
 ·rintro hk rfl
  have:(br []).1.1=0:=rfl
  omega
theorem Rv {s:ByteArray} {a:Int} {ns:List aa}:eQ 5 s a false ns=ui s a false ns:=by
 rw[zw]
 simp only[Bool.false_eq_true,if_false,gl]
 rfl
abbrev Nk (k:Int):aa:=(4,0,(0,0,(⟨#[]⟩:ByteArray),()),((0,0,()),false,false,()),((0,0,()),false,false,()),([k]:(List Int)),())
theorem Pb:ByteArray.size ⟨#[]⟩≤9223372036854775807:=by decide
theorem p3 {s m:ac} {L i j:Int} {l1 l2:ac} {b:Bool} {ns1 ns2:List aa} (hd:Dm b ns1) (h1:l1 <:+ m) (h2:ns1.length≤60) (h3:l2 <:+ s) (h4:ns2.length≤61+m.length):mD s m L (some ((i,()),((ba l1,ns1,b,()),()))) (some ((j,()),((ba s,bE s l2,true,ns2,()),()))) :=
 .inr ⟨i,l1,b,ns1,j,l2,ns2,rfl,hd,h1,h2,rfl,h3,h4⟩
theorem QP {s:ac} (hs:s.length≤200) {n:Nat} (HB:Pa s n) {m:ac} (hbm:bl m=m) (hms:m <:+ s) (hmn:m.length≤n) {deep:Int} {ns:List aa} (hd0:0≤deep) (hd:deep+(m.length:Int)≤200) (ho:dx ns=true) (hn:ns.length≤60) :
  mD s m 5 (eK deep (m.takeWhile aF) (m.dropWhile aF) false ns) ((lH (ba s) (bE s m) false ns).bind fun z10=>(fo z10.1.1 1 z10.2.1.1 z10.2.1.2.1 z10.2.1.2.2.1 z10.2.1.2.2.2.1)):=by
 have hml:=aB hms
 have hwl:=lp aF m
 have hrm:m.dropWhile aF <:+ m:=List.dropWhile_suffix _
 have hrs:=ae hrm hms
 have hrl:=aB hrm
 rw[CC (by omega) hms]
 simp only[Option.bind_some]
 obtain⟨l',hl',e⟩:=JU (w:=m.takeWhile aF) (s:=s) (ns:=ns) (by omega) (by omega) ln [] (m.dropWhile aF) rfl hrs
 have e:fo (ba (m.takeWhile aF)) 1 (ba s) (bE s (m.dropWhile aF)) false ns=_:=e
 rw[e]
 have hl's:l' <:+ m:=by
  rcases hl' with rfl | rfl
  ·exact hrm
  ·exact ae (ap _) hrm
 have hlb:bl l'=bl (m.dropWhile aF):=by
  rcases hl' with rfl | rfl
  ·rfl
  ·exact dq _
 cases hf:ln.find? (fun k=>decide (dv k=m.takeWhile aF)) with
 | some k =>
  obtain⟨k',hk',hkw,hkm,hne⟩:=LS (w:=m.takeWhile aF) (by rw[hf]; simp)
  rw[hf] at hk'
  cases hk'
  have hno : ∀ k∈ln,(br (dv k)).2=false∧(cu (dv k)).2=false:=by decide +kernel
  obtain⟨v1,v2⟩:=hno k hkm
  rw[hkw] at v1 v2
  have hlt:=LU (l:=m) (by rw[hbm]; exact hne)
  rw[hbm] at hlt
  have ei:eK deep (m.takeWhile aF) (m.dropWhile aF) false ns=fL k deep (ba (m.dropWhile aF)) false ns:=by
   unfold eK
   rw[if_neg (by rw[v1]; simp),if_neg (by rw[v2]; simp),hf]
  rw[ei,oU,if_neg (by decide),show(⟨#[40]⟩:ByteArray)=ba [40] from rfl,cC (by omega)]
  simp only[Option.bind_some,gv (c:=40) (.inr (.inl rfl)),jI,List.length_singleton]
  by_cases h40:(bl (m.dropWhile aF)).head? = some 40
  ·simp only[h40,decide_true,Bool.and_true,hf,if_true,Bool.not_true]
   have hdl:=nf h40
   have hds:(bl (m.dropWhile aF)).drop 1 <:+ m:=ae (gI _) hrm
   have hb2:=aB (ap ((bl (m.dropWhile aF)).drop 1))
   rw[Hx,Nj]
   exact(QN hs HB _ _ _ rfl rfl (ae hds hms) (ae hds hms) (by omega) k deep [] ns hd0 (by omega) (by simp only[List.length_nil]; omega) ho hn).mono (ae (ap _) hds)
  ·simp only[h40,decide_false,Bool.and_false,if_false,Bool.not_false]
   have e0:ln.find? (fun _=>false)=none:=rfl
   rw[e0]
   simp only
   have es:pW (m.takeWhile aF) s (bE s l') false ns=some ((0,()),((ba s,bE s l',true,ns,()),())):=by
    unfold pW
    rw[if_neg (by rw[v1]; simp),if_neg (by rw[v2]; simp)]
   rw[es,g9]
   simp only[Bool.not_true,Bool.false_eq_true,if_false,fQ]
   exact iJ (eW hn (En (by simp))) (Eo ho) (ae (ap _) hrm) rfl (ae hl's hms) (by omega)
 | none =>
  have e0:ln.find? (fun k=>decide (dv k=m.takeWhile aF) && ([40]:ac).isPrefixOf (bl (m.dropWhile aF)))=none:=by
   rw[List.find?_eq_none] at hf ⊢
   intro k hk
   have:=hf k hk
   simp only[decide_eq_true_eq] at this
   simp[this]
  rw[e0]
  simp only
  unfold pW eK
  rw[hf]
  have hv:=fun h=>QO (w:=m.takeWhile aF) (fun c hc=>GY hc) h
  by_cases hc:(br (m.takeWhile aF)).2=true∧m.takeWhile aF≠[]
  ·rw[if_pos hc,if_pos ⟨hc.1,(hv hc.1).1 hc.2⟩,iv]
   exact pY (LR (Nat.le_trans (it (pU hc.1).1) (by decide))) hlb.symm hrm hl's hms ho hn
  ·rw[if_neg hc,if_neg (fun h=>hc ⟨h.1,(hv h.1).2 h.2⟩)]
   by_cases hp:(cu (m.takeWhile aF)).2=true
   ·rw[if_pos hp,if_pos hp]
    exact pY rfl hlb.symm hrm hl's hms ho hn
   ·rw[if_neg hp,if_neg hp]
    exact p3 (Eo ho) hrm hn (ae hl's hms) (by omega)
theorem Pc {s:ac} (hs:s.length≤200) {n:Nat} (HB:Pa s n) : ∀(k:Nat) (l l0:ac),(bl l).length=k→bl l=bl l0→l <:+ s→l0 <:+ s→(bl l).length≤n → ∀(deep:Int) (ns:List aa),0≤deep→deep+((bl l).length:Int)≤200→dx ns=true→ns.length≤60 →
  mD s (bl l) 5 (eD deep (ba l) false ns) (ui (ba s) (bE s l0) false ns):=by
 intro k
 induction k using Nat.strongRecOn with
 | ind k ih =>
  intro l l0 hk hb hs1 hs2 hln deep ns hd0 hd ho hn
  subst hk
  have hl1:=aB hs1
  have hm1:=aB (ap l)
  have hms:bl l <:+ s:=ae (ap l) hs1
  rw[jE,aE (by omega),Jm,show(⟨#[45]⟩:ByteArray)=ba [45] from rfl,show(⟨#[40]⟩:ByteArray)=ba [40] from rfl,show(⟨#[34]⟩:ByteArray)=ba [34] from rfl,show(⟨#[35]⟩:ByteArray)=ba [35] from rfl,show(⟨#[41]⟩:ByteArray)=ba [41] from rfl,cC (by omega),g7 (by omega) (by decide) hs2]
  simp only[Option.bind_some,Bool.false_eq_true,if_false,fQ,gl,gv (c:=45) (.inl rfl),List.length_singleton,Bool.not_false,Bool.true_and,jI,←hb]
  by_cases h45:(bl l).head? = some 45
  ·simp only[h45,decide_true,if_true]
   have hlt:=nf h45
   have hX:(bl l).drop 1 <:+ bl l:=fC 1 _
   have hbX:=aB (ap ((bl l).drop 1))
   have hlX:((bl l).drop 1).length < (bl l).length:=by
    obtain⟨t,ht⟩:=gH h45
    rw[ht]
    simp
   rw[wr (by omega) (by omega),Rv]
   refine pZ (ih _ (by omega) _ _ rfl rfl (ae hX hms) (ae hX hms) (by omega) (deep+1) ns (by omega) (by omega) ho hn) ?_ ?_
   ·intro i x1 x2 ns' e1 e2 e3 e4 e5 _
    exact pY (x:=Nk i) rfl e1 (ae e2 (ae (ap _) hX)) (ae e3 (ae (ap _) hX)) hms e4 e5
   ·intro i x1 b1 ns1 j x2 ns2 e1 e2 e3 e4 e5
    refine iJ (eW e3) e1 (ae e2 (ae (ap _) hX)) (JY (x:=Nk j) (ns:=ns2) (by omega) Pb) e4 ?_
    show(ns2++[Nk j]).length≤_
    rw[List.length_append,List.length_singleton]
    omega
  ·simp only[h45,decide_false,Bool.false_eq_true,if_false]
   rw[pX (by omega),g7 (by omega) (by decide) hms]
   simp only[Option.bind_some,dq,Bool.not_false,Bool.true_and,jI,List.length_singleton]
   by_cases h40:(bl l).head? = some 40
   ·have n34 : ¬(bl l).head? = some 34:=by rw[h40]; decide
    have n35 : ¬(bl l).head? = some 35:=by rw[h40]; decide
    simp only[h40,decide_true,if_true]
    rw[if_neg (by decide),if_neg (by decide)]
    have hX:(bl l).drop 1 <:+ bl l:=fC 1 _
    have hbX:=aB (ap ((bl l).drop 1))
    have hlX:((bl l).drop 1).length < (bl l).length:=by
     obtain⟨t,ht⟩:=gH h40
     rw[ht]
     simp
    rw[wr (by omega) (by omega)]
    refine pZ (HB _ _ rfl (ae hX hms) (ae hX hms) (by omega) 1 (deep+1) ns (by decide) (by decide) (by omega) (by omega) ho hn) ?_ ?_
    ·intro i x1 x2 ns' e1 e2 e3 e4 e5 _
     have hx1:x1 <:+ bl l:=ae e2 (ae (ap _) hX)
     have hx2:x2 <:+ bl l:=ae e3 (ae (ap _) hX)
     have hlx:=aB hx1
     simp only[Bool.false_eq_true,if_false]
     rw[cC (by omega),g7 (by omega) (by decide) (ae hx2 hms)]
     simp only[Option.bind_some,gv (c:=41) (.inr (.inr (.inl rfl))),List.length_singleton,Bool.not_false,Bool.true_and,jI,←e1]
     by_cases h41:(bl x1).head? = some 41
     ·simp only[h41,decide_true,if_true,Bool.not_true,Bool.false_eq_true,if_false]
      have hd1:(bl x1).drop 1 <:+ bl l:=ae (gI x1) hx1
      exact .inl ⟨i,(bl x1).drop 1,(bl x1).drop 1,ns',rfl,rfl,rfl,hd1,hd1,e4,e5,.inr (Ni _)⟩
     ·simp only[h41,decide_false,if_false,Bool.not_false,Bool.false_eq_true,if_true]
      have hd1:bl x1 <:+ bl l:=ae (ap x1) hx1
      exact p3 (Eo e4) hd1 e5 (ae hd1 hms) (by omega)
    ·intro i x1 b1 ns1 j x2 ns2 e1 e2 e3 e4 e5
     have hx1:x1 <:+ bl l:=ae e2 (ae (ap _) hX)
     have hlx:=aB hx1
     rw[g7 (by omega) (by decide) e4]
     simp only[Option.bind_some,Bool.not_true,Bool.false_and,Bool.false_eq_true,if_false,Bool.not_false,if_true]
     cases b1 with
     | true =>
      simp only[if_true]
      exact p3 ⟨.inl rfl,e1.2⟩ hx1 e3 (ae (ap x2) e4) (by omega)
     | false =>
      simp only[Bool.false_eq_true,if_false]
      rw[cC (by omega)]
      simp only[Option.bind_some]
      have hdm:dx ns1=false:=e1.1.elim (fun h=>by cases h) id
      refine p3 ⟨.inr hdm,e1.2⟩ ?_ e3 (ae (ap x2) e4) (by omega)
      split
      ·exact ae (ae (fC _ _) (ap _)) hx1
      ·exact ae (ap _) hx1
   ·simp only[h40,decide_false,Bool.false_eq_true,if_false]
    rw[g7 (by omega) (by decide) hms]
    simp only[Option.bind_some,dq,Bool.not_false,Bool.true_and,jI,List.length_singleton]
    by_cases h34:(bl l).head? = some 34
    ·simp only[h34,decide_true,if_true]
     obtain⟨t,ht⟩:=gH h34
     have htl:t.length+1=(bl l).length:=by rw[ht]; simp
     have hts:t <:+ bl l:=⟨[34],by rw[ht]; rfl⟩
     rw[ht]
     simp only[List.drop_succ_cons,List.drop_zero]
     rw[xM (by omega),QJ (by omega) (ae hts hms)]
     cases hq:qt t with
     | none =>
      rw[←ht]
      exact p3 (Eo ho) (ne _) hn ⟨s,by simp⟩ (by omega)
     | some p =>
      obtain⟨q1,q2,q3⟩:=O3 t p.1 p.2 hq
      show mD s _ 5 (bD _ _ false ns) (b7 _ _ _ false ns)
      rw[iv,←ht]
      have hp:=ae q1 hts
      refine pY (x:=nC (2,0,ba ([]++p.1),())) (LR ?_) rfl hp hp hms ho hn
      show(ba ([]++p.1)).size≤_
      rw[aq]
      simp only[List.nil_append]
      omega
    ·simp only[h34,decide_false,Bool.false_eq_true,if_false]
     rw[g7 (by omega) (by decide) hms]
     simp only[Option.bind_some,dq,Bool.not_false,Bool.true_and,jI,List.length_singleton]
     by_cases h35:(bl l).head? = some 35
     ·simp only[h35,decide_true,if_true]
      obtain⟨t,ht⟩:=gH h35
      have htl:t.length+1=(bl l).length:=by rw[ht]; simp
      have hts:t <:+ bl l:=⟨[35],by rw[ht]; rfl⟩
      rw[ht]
      simp only[List.drop_succ_cons,List.drop_zero]
      have es:=GT (s:=s) (l:=t) (b:=false) (ns:=ns) (by omega) (ae hts hms) o8 [] rfl
      have es:ii 1 (ba s) (bE s t) false ns=_:=es
      rw[FI (by omega),es]
      cases o8.find? (ga t) with
      | none =>
       simp only
       rw[←ht]
       exact p3 (Eo ho) (ne _) hn (ae hts hms) (by omega)
      | some e =>
       simp only
       rw[iv,←ht]
       have hp:=ae (fC (di e).length t) hts
       exact pY (x:=nC (vE e)) (LR (by show eS.size≤_; decide)) rfl hp hp hms ho hn
     ·simp only[h35,decide_false,Bool.false_eq_true,if_false]
      exact QP hs HB (dq l) hms hln hd0 hd ho hn
end Go.Proofs.YtddiiceaindlhaaGreatDoor.Abs
set_option linter.unusedVariables false
set_option linter.unusedSimpArgs false
set_option linter.unusedSectionVars false
namespace Go.Proofs.YtddiiceaindlhaaGreatDoor.Abs
open Go
noncomputable def zQ:Nat→Int→(Int×Unit)×(kb×Unit)→RS
 | 0,_,z=>some ((z.1.1,()),(z.2.1,()))
 | c+1,L,z=>(dt (L+(c:Int)) z.1.1 z.2.1.1 z.2.1.2.1 z.2.1.2.2.1 z.2.1.2.2.2.1).bind (zQ c L)
theorem FJ {L a:Int} {s:ByteArray} {i:Int} {ns:List aa}:dt L a s i true ns=some ((a,()),((s,i,true,ns,()),())):=by
 rw[ux]
 rfl
theorem AY : ∀(c:Nat) (L a:Int) (s:ByteArray) (i:Int) (ns:List aa),zQ c L ((a,()),((s,i,true,ns,()),()))=some ((a,()),((s,i,true,ns,()),()))
 | 0,_,_,_,_,_=>rfl
 | c+1,L,a,s,i,ns=>by
  show(dt _ a s i true ns).bind (zQ c L)=_
  rw[FJ]
  exact AY c L a s i ns
theorem JZ : ∀(c:Nat) (L:Int) (z:(Int×Unit)×(kb×Unit)),zQ (c+1) L z=(zQ c (L+1) z).bind fun z2=>dt L z2.1.1 z2.2.1.1 z2.2.1.2.1 z2.2.1.2.2.1 z2.2.1.2.2.2.1
 | 0,L,z=>by
  show(dt (L+((0:Nat):Int)) z.1.1 z.2.1.1 z.2.1.2.1 z.2.1.2.2.1 z.2.1.2.2.2.1).bind (fun z=>some ((z.1.1,()),(z.2.1,())))=dt L z.1.1 z.2.1.1 z.2.1.2.1 z.2.1.2.2.1 z.2.1.2.2.2.1
  rw[gl,show L+((0:Nat):Int)=L by omega]
 | c+1,L,z=>by
  show(dt (L+((c+1:Nat):Int)) z.1.1 z.2.1.1 z.2.1.2.1 z.2.1.2.2.1 z.2.1.2.2.2.1).bind (zQ (c+1) L)=((dt (L+1+(c:Int)) z.1.1 z.2.1.1 z.2.1.2.1 z.2.1.2.2.1 z.2.1.2.2.2.1).bind (zQ c (L+1))).bind _
  rw[show L+((c+1:Nat):Int)=L+1+(c:Int) by omega,Option.bind_assoc]
  congr 1
  funext y
  exact JZ c L y
theorem Ep {s:ByteArray} {a:Int} {ns:List aa} : ∀(c:Nat) (L:Int),L+(c:Int)=5→1≤L→eQ L s a false ns=(eQ 5 s a false ns).bind (zQ c L)
 | 0,L,h,_=>by
  have:L=5:=by omega
  subst this
  exact gl.symm
 | c+1,L,h,h1=>by
  have hL : ¬(L == 5)=true:=by simp only[beq_iff_eq]; omega
  rw[zw,if_neg (by decide),if_neg hL,wr (by omega) (by omega),Ep c (L+1) (by omega) (by omega),Option.bind_assoc]
  congr 1
  funext z
  exact(JZ c L z).symm
abbrev nB (op a b:Int):aa:=(5,op,(0,0,(⟨#[]⟩:ByteArray),()),((0,0,()),false,false,()),((0,0,()),false,false,()),([a,b]:(List Int)),())
theorem QQ {s m' l1 l2:ac} {L':Int} {x:aa} {ns:List aa} {K:(Int×Unit)×(pE×Unit)→RI} {K':(Int×Unit)×(kb×Unit)→RS} (hsx:uG x=true) (ho:dx ns=true) (hn:ns.length≤60)
  (hg:dx (ns++[x])=true→(ns++[x]).length≤60→mD s m' L' (K (((ns.length:Int),()),((ba l1,ns++[x],false,()),()))) (K' (((ns.length:Int),()),((ba s,bE s l2,false,ns++[x],()),()))))
  (hd : ∀(i:Int) (b1:Bool) (ns1:List aa),Dm b1 ns1→ns1.length≤60→mD s m' L' (K ((i,()),((ba l1,ns1,b1,()),()))) (K' (((ns.length:Int),()),((ba s,bE s l2,true,ns++[x],()),())))) :
  mD s m' L' ((ay x (ba l1) false ns).bind K) ((b7 x (ba s) (bE s l2) false ns).bind K'):=by
 have hx:=JX hsx
 obtain⟨i,e,hi⟩:=wE (x:=x) (l:=l1) (b:=false) hn
 rw[e,FE (by omega) hx]
 simp only[Option.bind_some]
 by_cases hlt:ns.length < 60
 ·have hi:=hi rfl hlt
  subst hi
  have d60:decide (60≤ns.length)=false:=decide_eq_false (by omega)
  simp only[d60,hlt,and_self,if_true,Bool.false_or]
  cases hk:bH x with
  | true =>
   refine hg ?_ ?_
   ·unfold dx at ho ⊢
    rw[List.all_append,ho]
    simp[hk]
   ·rw[List.length_append,List.length_singleton]; omega
  | false =>
   refine hd _ false (ns++[x]) ⟨.inr ?_,LV (tC ho) hsx⟩ ?_
   ·unfold dx
    rw[List.all_append]
    simp[hk]
   ·rw[List.length_append,List.length_singleton]; omega
 ·have d60:decide (60≤ns.length)=true:=decide_eq_true (by omega)
  rw[d60,if_neg (by omega)]
  simp only[Bool.false_or,Bool.true_or]
  exact hd i true ns (Eo ho) hn
theorem QR {s:ac} (hs:s.length≤200) {n:Nat} (HB:Pa s n) : ∀(k c:Nat) (l1 l2 M:ac),(bl l1).length=k→bl l1=bl l2→l1 <:+ M→l2 <:+ M→M <:+ s→(bl l1).length≤n → ∀(L left deep:Int) (ns:List aa),1≤L→L+(c:Int)≤5→0≤deep→deep+((bl l1).length:Int)≤200→dx ns=true→ns.length≤60→(dR (bl l1)=0∨cg (dR (bl l1)) < L+(c:Int)) →
  mD s M L (cm L deep left (ba l1) false ns) (zQ c L ((left,()),((ba s,bE s l2,false,ns,()),()))):=by
 intro k
 induction k using Nat.strongRecOn with
 | ind k ih =>
  intro c
  induction c with
  | zero =>
   intro l1 l2 M hk hb hs1 hs2 hMs hln L left deep ns hL0 hL1 hd0 hd ho hn hpost
   have hl1:=aB (ae hs1 hMs)
   have hbl:=aB (ap l1)
   obtain⟨o1,o2⟩:=lm (bl l1)
   rw[fe]
   simp only[Bool.not_false,if_true]
   rw[tA (by omega),wG o1 o2 (by omega) (fun h=>by rw[dq]; exact pV h),if_pos (by omega)]
   refine .inl ⟨left,bl l1,l2,ns,rfl,rfl,by rw[dq,hb],ae (ap l1) hs1,hs2,ho,hn,?_⟩
   rw[dq]
   omega
  | succ c ihc =>
   intro l1 l2 M hk hb hs1 hs2 hMs hln L left deep ns hL0 hL1 hd0 hd ho hn hpost
   have hl1:=aB (ae hs1 hMs)
   have hbl:=aB (ap l1)
   have hs2s:=ae hs2 hMs
   obtain⟨o1,o2⟩:=lm (bl l1)
   obtain⟨l',hl',eop⟩:=Tp (s:=s) (l:=l2) (ns:=ns) (L:=L+(c:Int)) (by omega) (by omega) hs2s
   have hCh:zQ (c+1) L ((left,()),((ba s,bE s l2,false,ns,()),()))=(dt (L+(c:Int)) left (ba s) (bE s l2) false ns).bind (zQ c L):=rfl
   rw[hCh,ux]
   simp only[Bool.not_false,if_true]
   rw[eop,←hb]
   by_cases hop:dR (bl l1)≠0∧cg (dR (bl l1))=L+(c:Int)
   ·rw[if_pos hop]
    have h0 : ¬(dR (bl l1) == 0)=true:=by simpa using hop.1
    unfold xK
    simp only[Option.bind_some]
    rw[if_neg h0,←hb,wr (by omega) (by omega)]
    have hlt:=JW hop.1
    have hX:(bl l1).drop (cZ (dR (bl l1))).length <:+ M:=ae (fC _ _) (ae (ap l1) hs1)
    have hXM:=aB hX
    have hXl:((bl l1).drop (cZ (dR (bl l1))).length).length < (bl l1).length:=by
     have:=JW (l:=bl l1) (by rw[dq]; exact hop.1)
     rw[dq] at this
     exact this
    have hbX:=aB (ap ((bl l1).drop (cZ (dR (bl l1))).length))
    rw[fe]
    simp only[Bool.not_false,if_true]
    rw[tA (by omega),wG o1 o2 (by omega) (fun h=>by rw[dq]; exact pV h),if_neg (by omega),dq,hop.2,Option.bind_assoc]
    have hMl:(bl l1).length≤M.length:=aB (ae (ap l1) hs1)
    refine pZ (HB _ _ rfl (ae hX hMs) (ae hX hMs) (by omega) (L+(c:Int)+1) deep ns (by omega) (by omega) hd0 (by omega) ho hn) ?_ ?_
    ·intro i x1 x2 ns' e1 e2 e3 e4 e5 e6
     have hx1:x1 <:+ M:=ae e2 (ae (ap _) hX)
     have hx2:x2 <:+ M:=ae e3 (ae (ap _) hX)
     have hxl:=aB e2
     have hbx:=aB (ap x1)
     have hxM:=aB hx1
     have hMsl:=aB hMs
     simp only
     rw[Option.bind_assoc]
     refine QQ (x:=nB (dR (bl l1)) left i) rfl e4 e5 ?_ ?_
     ·intro a1 a2
      exact ih _ (by omega) (c+1) x1 x2 M rfl e1 hx1 hx2 hMs (by omega) L _ deep _ hL0 hL1 hd0 (by omega) a1 a2 (by omega)
     ·intro i2 b1 ns1 a1 a2
      simp only
      rw[FJ]
      simp only[Option.bind_some]
      rw[AY]
      refine iJ (xN _ x1 rfl (fun l' _ deep least b ns d0 d1 hn=>AW l' deep least b ns d0 d1 hn) L deep i2 b1 ns1 hd0 (by omega) a2) a1 hx1 rfl (ae hx2 hMs) ?_
      rw[List.length_append,List.length_singleton]
      omega
    ·intro i x1 b1 ns1 j x2 ns2 e1 e2 e3 e4 e5
     have hx1:x1 <:+ M:=ae e2 (ae (ap _) hX)
     have hxM:=aB hx1
     have hMsl:=aB hMs
     simp only
     rw[JY (x:=nB (dR (bl l1)) left j) (ns:=ns2) (by omega) Pb]
     simp only[Option.bind_some]
     rw[FJ]
     simp only[Option.bind_some]
     rw[AY]
     obtain⟨i3,l3,b3,ns3,h3,j1,j2,j3⟩:=(eW (x:=nB (dR (bl l1)) left i) (l:=x1) (b:=b1) e3).dm e1
     rw[h3]
     simp only[Option.bind_some]
     have hs3:=aB j1
     refine iJ (xN _ l3 rfl (fun l' _ deep least b ns d0 d1 hn=>AW l' deep least b ns d0 d1 hn) L deep i3 b3 ns3 hd0 (by omega) j3) j2 (ae j1 hx1) rfl e4 ?_
     rw[List.length_append,List.length_singleton]
     omega
   ·rw[if_neg hop]
    unfold xK
    simp only[Option.bind_some]
    rw[if_pos (by rfl)]
    simp only[Option.bind_some]
    have hb':bl l1=bl l':=by
     rcases hl' with rfl | rfl
     ·exact hb
     ·rw[dq,hb]
    have hs':l' <:+ M:=by
     rcases hl' with rfl | rfl
     ·exact hs2
     ·exact ae (ap l2) hs2
    exact ihc l1 l' M hk hb' hs1 hs' hMs hln L left deep ns hL0 (by omega) hd0 hd ho hn (by omega)
theorem Pd {s:ac} (hs:s.length≤200) : ∀ n,Pa s n
 | 0=>fun l l0 _ _ _ h=>by omega
 | n+1=>by
  have HB:=Pd hs n
  intro l l0 hb hs1 hs2 hln L deep ns hL0 hL1 hd0 hd ho hn
  have hms:bl l <:+ s:=ae (ap l) hs1
  have hm:=aB hms
  rw[me,Ep (5 - L).toNat L (by omega) hL0,Rv]
  refine pZ (Pc hs HB _ l l0 rfl hb hs1 hs2 (by omega) deep ns hd0 hd ho hn) ?_ ?_
  ·intro i x1 x2 ns' e1 e2 e3 e4 e5 _
   have hbx:=aB (ap x1)
   have hx:=aB e2
   exact QR hs HB _ (5 - L).toNat x1 x2 (bl l) rfl e1 e2 e3 hms (by omega) L i deep ns' hL0 (by omega) hd0 (by omega) e4 e5 (.inr (by have:=Ni (dR (bl x1)); omega))
  ·intro i x1 b1 ns1 j x2 ns2 e1 e2 e3 e4 e5
   have hx:=aB e2
   rw[AY]
   exact iJ (xN _ x1 rfl (fun l' _ deep least b ns d0 d1 hn=>AW l' deep least b ns d0 d1 hn) L deep i b1 ns1 hd0 (by omega) e3) e1 e2 rfl e4 e5
theorem FK {ns:List aa} (h:sm ns=true) : ∀ x∈ns,x.2.2.1.2.2.1.size≤9223372036854775807:=by
 unfold sm at h
 rw[List.all_eq_true] at h
 exact fun x hx=>JX (h x hx)
theorem FL {ns:List aa} (h:sm ns=true) : ∀ x∈ns,x.2.2.2.2.2.1.length≤10000000:=by
 unfold sm at h
 rw[List.all_eq_true] at h
 intro x hx
 have:=h x hx
 unfold uG at this
 rw[Bool.and_eq_true,decide_eq_true_eq,decide_eq_true_eq] at this
 omega
theorem Tq (s:ac):bE s s=0:=by
 unfold bE
 omega
theorem H4 {x:ByteArray} (hx:x.size≤9223372036854775807) : ∃(f:List aa) (b:Bool),kX x=some ((f,b,()),())∧jb x=some ((f,b,()),())∧(b=true→fp f=true)∧(b=false→f=[]):=by
 obtain⟨s,rfl⟩ : ∃ s,x=ba s:=⟨lb x,(f0 x).symm⟩
 rw[DP,uv,mA hx,rV hx]
 simp only[Option.bind_some]
 cases hp:(plain (ba s) && decide (((ba s).size:Int)≤200)) with
 | false=>exact⟨[],false,rfl,rfl,(fun h=>by cases h),fun _=>rfl⟩
 | true =>
  rw[Bool.and_eq_true,decide_eq_true_eq,aq] at hp
  have hs:s.length≤200:=by omega
  have hbl:=aB (ap s)
  have h:=Pd hs (s.length+1) s s rfl (ne s) (ne s) (by omega) 1 0 [] (by decide) (by decide) (by decide) (by omega) rfl (by simp)
  rw[Tq] at h
  simp only[Bool.not_true,Bool.false_eq_true,if_false]
  rcases h with⟨i,l1,l2,ns,e1,e2,h1,h2,h3,h4,h5,h6⟩ | ⟨i,l1,b1,ns1,j,l2,ns2,e1,h1,h2,h3,e2,h4,h5⟩
  ·rw[e1,e2]
   simp only[Option.bind_some]
   rw[JN (by omega) (ae h3 (ap s)),l6]
   simp only[Option.bind_some,Bool.false_eq_true,if_false]
   have e0:(ByteArray.toList (ba (bl l1)) == ByteArray.toList (⟨#[]⟩:ByteArray))=decide (bl l1=[]):=cT (b:=[])
   rw[e0,←h1,aq,jX (by omega) (FK (tC h4)) (FL (tC h4)),mT (by omega) (FK (tC h4)) (FL (tC h4))]
   simp only[Option.bind_some]
   by_cases hr:bl l1=[]
   ·rw[aE (by rw[hr]; unfold bE; simp),hr]
    simp only[decide_true,Bool.not_true,Bool.false_eq_true,if_false]
    cases hk:fp ns with
    | true=>exact⟨ns,true,rfl,rfl,fun _=>hk,fun h=>by cases h⟩
    | false=>exact⟨[],false,rfl,rfl,(fun h=>by cases h),fun _=>rfl⟩
   ·have hlen:=List.length_pos_iff.2 hr
    have hls:=aB (ae (ae (ap l1) h2) (ap s))
    rw[aI (by unfold bE; omega)]
    simp only[hr,decide_false,Bool.not_false,if_true]
    exact⟨[],false,rfl,rfl,(fun h=>by cases h),fun _=>rfl⟩
  ·rw[e1,e2]
   simp only[Option.bind_some]
   rw[JN (by omega) h4,l6]
   simp only[Option.bind_some,if_true]
   refine⟨[],false,rfl,?_,(fun h=>by cases h),fun _=>rfl⟩
   cases b1 with
   | true=>rfl
   | false =>
    have hbad:dx ns1=false:=h1.1.elim (fun h=>by cases h) id
    simp only[Bool.false_eq_true,if_false]
    split
    ·rfl
    ·rw[jX (by omega) (FK h1.2) (FL h1.2)]
     simp only[Option.bind_some]
     cases hk:fp ns1 with
     | false=>rfl
     | true =>
      exfalso
      have:dx ns1=true:=by
       unfold dx
       rw[List.all_eq_true]
       intro y hy
       obtain⟨i,hi⟩:=List.getElem?_of_mem hy
       exact(l4 hk i y hi).1
      rw[this] at hbad
      cases hbad
end Go.Proofs.YtddiiceaindlhaaGreatDoor.Abs
set_option linter.unusedVariables false
set_option linter.unusedSimpArgs false
set_option linter.unusedSectionVars false
namespace Go.Proofs.YtddiiceaindlhaaGreatDoor.Abs
open Go
def qT:ac→ac
 | []=>[]
 | c :: l=>if c=34 then 34 :: 34 :: qT l else c :: qT l
theorem Pe : ∀ l:ac,(qT l).length≤2*l.length
 | []=>by simp[qT]
 | c :: l=>by
  have:=Pe l
  unfold qT
  split <;> simp only[List.length_cons] <;> omega
theorem J0 (l:ac) : ∀ pre:ac,(34:UInt8) ∉ pre→qT (pre++l)=pre++qT l
 | [],_=>rfl
 | c :: pre,h=>by
  simp only[List.mem_cons,not_or] at h
  rw[List.cons_append,qT,if_neg (fun e=>h.1 e.symm),J0 l pre h.2]
  rfl
theorem Nl : ∀(n:Nat) (l:ac),l.length=n→Lib.replaceK [34] [34,34] (l.count 34) l=qT l:=by
 intro n
 induction n using Nat.strongRecOn with
 | ind n ih =>
  intro l hn
  by_cases hm:(34:UInt8)∈l
  ·obtain⟨pre,t,rfl,h2⟩:=CD 34 l hm
   have hc:(pre++34 :: t).count 34=t.count 34+1:=by
    rw[List.count_append,List.count_eq_zero.2 h2,List.count_cons_self]
    omega
   have hi:Lib.index (pre++34 :: t) [34]=(pre.length:Nat):=by rw[Lib.index_one,FF 34 t pre h2]
   rw[hc,Lib.replaceK_hit _ _ _ _ _ hi,List.take_left' rfl,J0 _ pre h2]
   have hd:(pre++34 :: t).drop (pre.length+([34]:ac).length)=t:=by
    have:pre++34 :: t=(pre++[34])++t:=by simp
    rw[this,List.drop_left' (by simp)]
   rw[hd,ih t.length (by rw[←hn]; simp; omega) t rfl]
   simp[qT]
  ·rw[List.count_eq_zero.2 hm]
   have:=J0 [] l hm
   rw[List.append_nil] at this
   rw[this]
   simp[qT,Lib.replaceK]
theorem K9 {l:ac} (hl:l.length≤1000000):strings_ReplaceAll (ba l) (⟨#[34]⟩:ByteArray) (⟨#[34,34]⟩:ByteArray)=some ((ba (qT l),()),()):=by
 rw[wj]
 have hcount:Lib.countB (ba l) (ba [34])=l.count 34:=by
  show Lib.count (lb (ba l)) (lb (ba [34]))=_
  rw[dw,dw,Lib.count_one]
 have hle:l.count 34≤l.length:=List.count_le_length
 show(if(ba l).size < 4294967281∧1≤(ba [34]).size∧(ba l).size+Lib.countB (ba l) (ba [34])*(ba [34,34]).size≤140737488355328 then some (((⟨(Lib.replaceAll (lb (ba l)) (lb (ba [34])) (lb (ba [34,34]))).toArray⟩:ByteArray),()),()) else none)=_
 rw[if_pos ⟨by rw[aq]; omega,by decide,by rw[hcount,aq,aq]; simp only[List.length_cons,List.length_nil]; omega⟩,dw,dw,dw]
 congr 3
 show ba (Lib.replaceAll l [34] [34,34])=_
 unfold Lib.replaceAll Lib.replace Lib.replaceNum
 rw[if_neg (by decide),if_pos (.inl (by decide)),Lib.count_one,Nl _ l rfl]
theorem vl {s:ac} (hs:s.length≤1000000) : ∀(l acc:ac),l <:+ s→acc.length+2*l.length≤4000000→mu (ba s) (ba acc) (bE s l)=some ((ba (acc++qT l++[34]),()),())
 | [],acc,h,ha=>by
  rw[wq,aE (by rw[aq]; unfold bE; simp),show(⟨#[34]⟩:ByteArray)=ba [34] from rfl,bm (by simp only[List.length_singleton]; simp at ha; omega)]
  simp[qT]
 | c :: l,acc,h,ha=>by
  obtain⟨pre,h1,h2⟩:=nd h
  have hl:pre.length+l.length+1=s.length:=by rw[h1]; simp; omega
  rw[List.length_cons] at ha
  have h':l <:+ s:=ae ⟨[c],rfl⟩ h
  have e1:(pre.length:Int)+1=bE s l:=by
   unfold bE
   omega
  have e3:(s.take (pre.length+1)).drop pre.length=[c]:=by
   rw[h1,List.take_append,List.drop_append]
   simp
  rw[wq,h2,aI (by rw[aq]; omega),jY h1,Cz c 34 (n:=34) rfl,wr (by omega) (by omega),show(pre.length:Int)+1=((pre.length+1:Nat):Int) by omega,wA (by omega) (by omega),e3]
  by_cases hc:c=34
  ·subst hc
   rw[aI rfl,show(⟨#[34]⟩:ByteArray)=ba [34] from rfl,bm (by simp only[List.length_singleton]; omega),wA (by omega) (by omega),e3,bm (by simp only[List.length_append,List.length_singleton]; omega),show((pre.length+1:Nat):Int)=bE s l by omega,vl hs l _ h' (by simp only[List.length_append,List.length_singleton]; omega)]
   simp[qT]
  ·rw[aE hc,bm (by simp only[List.length_singleton]; omega),show((pre.length+1:Nat):Int)=bE s l by omega,vl hs l _ h' (by simp only[List.length_append,List.length_singleton]; omega)]
   simp[qT,hc]
theorem Pf {l:ac} (hl:l.length≤1000000):Cj (ba l)=some ((ba (34 :: (qT l++[34])),()),()):=by
 rw[KO,show(⟨#[34]⟩:ByteArray)=ba [34] from rfl]
 have:=vl hl l [34] (ne l) (by simp only[List.length_singleton]; omega)
 rw[Tq] at this
 rw[this]
 simp
def bW:List ac→ac
 | []=>[]
 | [x]=>x
 | x :: y :: l=>x++44 :: bW (y :: l)
def bB (f:List aa):Nat→Int→Int→ac
 | 0,_,_=>[]
 | n+1,k,L =>
  let x:=ff f k
  if x.1=1 then(if x.2.2.1.1=2 then 34 :: (qT (lb x.2.2.1.2.2.1)++[34]) else lb (cL x.2.2.1))
  else if x.1=2 then eV x.2.2.2.1
  else if x.1=3 then eV x.2.2.2.1++58 :: eV x.2.2.2.2.1
  else if x.1=4 then 45 :: bB f n (x.2.2.2.2.2.1.getD 0 0) 5
  else if x.1=5 then
   let b:=bB f n (x.2.2.2.2.2.1.getD 0 0) (cg x.2.1)++(cZ x.2.1++bB f n (x.2.2.2.2.2.1.getD 1 0) (cg x.2.1+1))
   if cg x.2.1 < L then 40 :: (b++[41]) else b
  else dv x.2.1++40 :: (bW (x.2.2.2.2.2.1.map fun k=>bB f n k 1)++[41])
end Go.Proofs.YtddiiceaindlhaaGreatDoor.Abs
set_option linter.unusedVariables false
set_option linter.unusedSimpArgs false
set_option linter.unusedSectionVars false
namespace Go.Proofs.YtddiiceaindlhaaGreatDoor.Abs
open Go
theorem BV : ∀ l:List ac,bW l=Lib.join l [44]
 | []=>rfl
 | [x]=>by rw[Lib.join_one]; rfl
 | x :: y :: l=>by
  rw[bW,BV (y :: l),Lib.join_cons,Lib.join_cons]
  simp[Lib.joinTail]
theorem BW (x:ac) : ∀(l:List ac),l≠[]→bW (l++[x])=bW l++44 :: x
 | [y],_=>rfl
 | y :: z :: l,_=>by
  show y++44 :: bW (z :: l++[x])=(y++44 :: bW (z :: l))++44 :: x
  rw[BW x (z :: l) (by simp)]
  simp
theorem Er : ∀ l:List ac,(bW l).length≤(l.map List.length).sum+l.length
 | []=>by simp[bW]
 | [x]=>by simp[bW]
 | x :: y :: l=>by
  have:=Er (y :: l)
  simp only[bW,List.length_append,List.length_cons,List.map_cons,List.sum_cons] at this ⊢
  omega
theorem QS {xs:List ac} (h1:xs.length≤1000) (h2:(bW xs).length≤10000000):strings_Join (xs.map fun x=>ba x) (⟨#[44]⟩:ByteArray)=some ((ba (bW xs),()),()):=by
 rw[DY]
 have e:(xs.map fun x=>ba x).map (·.data.toList)=xs:=by
  rw[List.map_map]
  conv=>rhs; rw[←List.map_id xs]
  apply List.map_congr_left
  intro x _
  exact dw x
 show(if(xs.map fun x=>ba x).length≤140737488355328∧(Lib.join ((xs.map fun x=>ba x).map (·.data.toList)) (lb (ba [44]))).length≤140737488355328 then some (((⟨(Lib.join ((xs.map fun x=>ba x).map (·.data.toList)) (lb (ba [44]))).toArray⟩:ByteArray),()),()) else none)=_
 rw[e,dw,←BV,if_pos ⟨by rw[List.length_map]; omega,by omega⟩]
theorem AZ {p:aA} (h:ao p.1=true):(eV p).length≤6:=by
 obtain⟨c,r,fc,fr,rfl,h1,h2,h3,h4⟩:=uD h
 have k1:=pT c
 have k2:=rY h4
 show(rx c r fc fr).length≤6
 unfold rx o5
 simp only[List.length_append]
 cases fc <;> cases fr <;> simp <;> omega
theorem LW (k:Int):(dv k).length≤5:=by
 unfold dv
 by_cases hi:k.toNat < 11
 ·have h : ∀ j:Fin 11,(([[],[83,85,77],[77,73,78],[77,65,88],[67,79,85,78,84],[73,70],[65,78,68],[79,82],[78,79,84],[65,66,83],[76,69,78]]:List ac).getD j.val []).length≤5:=by decide
  exact h ⟨k.toNat,hi⟩
 ·rw[List.getD_eq_getElem?_getD,List.getElem?_eq_none (by simp; omega)]
  simp
theorem J1 {c:Int→Option (Int×Nat)} {f:List aa} {call:Bool} : ∀(l:List Int) (cur:Int) (h:Nat) (s:Int) (h':Nat),d7 c f call l cur h=some (s,h') →
  (∀ kid∈l,∃ p,c kid=some p) ∧ ∀ g:Int→Nat,(∀ kid s' h'',c kid=some (s',h'')→(g kid:Int)≤1000*(kid - s'+1))→(((l.map g).sum:Nat):Int)≤1000*(cur - s)
 | [],cur,h,s,h',e=>by
  simp only[d7,Option.some.injEq,Prod.mk.injEq] at e
  obtain⟨rfl,_⟩:=e
  exact⟨fun _ h=>by simp at h,fun g _=>by simp⟩
 | kid :: l,cur,h,s,h',e=>by
  simp only[d7] at e
  split at e
  ·rename_i hk
   rw[Option.bind_eq_some_iff] at e
   obtain⟨p,hp,e⟩:=e
   obtain⟨k1,k2⟩:=J1 l p.1 _ s h' e
   refine⟨fun kid' hm => ?_,fun g hg => ?_⟩
   ·rcases List.mem_cons.1 hm with rfl | hm
    ·exact⟨p,hp⟩
    ·exact k1 kid' hm
   ·have h1:=k2 g hg
    have h2:=hg kid p.1 p.2 hp
    have:=hk.1
    simp only[List.map_cons,List.sum_cons]
    omega
  ·cases e
section
variable {f:List aa}
theorem Es (n:Nat) (k:Int):bB f n k 0=bB f n k 1:=by
 cases n with
 | zero=>rfl
 | succ n =>
  have hlv : ∀ j,¬cg j < 0 ∧ ¬cg j < 1:=by
   intro j
   unfold cg
   constructor <;> (repeat' split) <;> omega
  unfold bB
  simp only[(hlv _).1,(hlv _).2,if_false]
def Nm (f:List aa) (n:Nat) (k:Int):Prop := ∀ L:Int,fM f k L=some ((ba (bB f n k L),()),())∧lJ f k L=some ((ba (bB f n k L),()),())
theorem Et {n:Nat} {kids:List Int} {a op:Int} {v:ax} {A B:aA} {kids':List Int} (hop:0≤op∧op≤10) (hl:kids.length≤10) (hk : ∀ k∈kids,Nm f n k) (hlen:(bW (kids.map fun k=>bB f n k 1)).length≤1000000) : ∀(ys pre:List Int),kids=pre++ys →
  jD f kids (kids.length:Int) (pre.length:Int) a op v A B kids' ((pre.map fun k=>bB f n k 1).map fun x=>ba x)=some ((ba (dv op++40 :: (bW (kids.map fun k=>bB f n k 1)++[41])),()),())
 | [],pre,h=>by
  rw[List.append_nil] at h
  subst h
  have hf:=LW op
  rw[pl,aE (Int.lt_irrefl _),Em hop.1 hop.2]
  simp only[Option.bind_some]
  rw[show(⟨#[40]⟩:ByteArray)=ba [40] from rfl,bm (by simp only[List.length_singleton]; omega),QS (by rw[List.length_map]; omega) (by omega)]
  simp only[Option.bind_some]
  rw[bm (by simp only[List.length_append,List.length_singleton]; omega),show(⟨#[41]⟩:ByteArray)=ba [41] from rfl,bm (by simp only[List.length_append,List.length_singleton]; omega)]
  simp
 | y :: ys,pre,h=>by
  rw[pl,aI (cK h),bU h,(hk y (by rw[h]; simp) 1).1]
  simp only[Option.bind_some]
  have hpl:pre.length≤10:=by
   have:=congrArg List.length h
   simp at this
   omega
  rw[bG (by simp only[List.length_map,List.length_singleton]; omega),bk h (by omega)]
  have:=Et (a:=a) (v:=v) (A:=A) (B:=B) (kids':=kids') hop hl hk hlen ys (pre++[y]) (aZ h)
  rw[List.map_append,List.map_append] at this
  exact this
theorem Eu {n:Nat} {kids:List Int} {a op:Int} {v:ax} {A B:aA} (hl:kids.length≤10) (hk : ∀ k∈kids,Nm f n k) (hlen : ∀ pre ys:List Int,kids=pre++ys→(bW (pre.map fun k=>bB f n k 1)).length≤1000000) (hop:(dv op).length≤5) : ∀(ys pre:List Int),kids=pre++ys →
  mv f (ba (dv op++40 :: bW (pre.map fun k=>bB f n k 1))) (pre.length:Int) a op v A B kids=some ((ba (dv op++40 :: (bW (kids.map fun k=>bB f n k 1)++[41])),()),())
 | [],pre,h=>by
  have h0:=hlen pre [] h
  rw[List.append_nil] at h
  subst h
  rw[wt,aE (Int.lt_irrefl _),show(⟨#[41]⟩:ByteArray)=ba [41] from rfl,bm (by simp only[List.length_append,List.length_cons,List.length_nil]; omega)]
  simp
 | y :: ys,pre,h=>by
  have h0:=hlen pre (y :: ys) h
  have h1:=hlen (pre++[y]) ys (aZ h)
  have hpl:pre.length≤10:=by
   have:=congrArg List.length h
   simp at this
   omega
  have ih:=Eu (a:=a) (v:=v) (A:=A) (B:=B) hl hk hlen hop ys (pre++[y]) (aZ h)
  rw[List.map_append,List.map_singleton] at ih h1
  rw[wt,aI (cK h)]
  by_cases hp:pre=[]
  ·subst hp
   simp only[List.nil_append,List.map_nil,bW] at ih h1 ⊢
   rw[aE (by simp),bU (pre:=[]) h,(hk y (by rw[h]; simp) 0).2,Es]
   simp only[Option.bind_some]
   rw[bm (by simp only[List.length_append,List.length_cons,List.length_nil]; omega),bk (pre:=[]) h (by omega)]
   have e:dv op++[40]++bB f n y 1=dv op++40 :: bB f n y 1:=by simp
   rw[e]
   exact ih
  ·have hpos:=List.length_pos_iff.2 hp
   rw[BW _ _ (by simpa using hp)] at ih h1
   simp only[List.length_append,List.length_cons] at h1
   rw[aI (by omega),show(⟨#[44]⟩:ByteArray)=ba [44] from rfl,bm (by simp only[List.length_append,List.length_cons,List.length_nil]; omega),bU h,(hk y (by rw[h]; simp) 0).2,Es]
   simp only[Option.bind_some]
   rw[bm (by simp only[List.length_append,List.length_cons,List.length_nil]; omega),bk h (by omega)]
   have e:dv op++40 :: bW (pre.map fun k=>bB f n k 1)++[44]++bB f n y 1=dv op++40 :: (bW (pre.map fun k=>bB f n k 1)++44 :: bB f n y 1):=by simp
   rw[e]
   exact ih
end
end Go.Proofs.YtddiiceaindlhaaGreatDoor.Abs
set_option linter.unusedVariables false
set_option linter.unusedSimpArgs false
set_option linter.unusedSectionVars false
namespace Go.Proofs.YtddiiceaindlhaaGreatDoor.Abs
open Go
section
variable {f:List aa}
theorem Ts {l:List Int} (h:l.length=2) : ∃ a b,l=[a,b]:=by
 match l,h with
 | [a,b],_=>exact⟨a,b,rfl⟩
theorem FM (hf:f.length≤60) : ∀(n:Nat) (k s:Int) (h:Nat),cY f n k=some (s,h)→Nm f n k ∧ ∀ L:Int,((bB f n k L).length:Int)≤1000*(k - s+1)
 | 0,k,s,h,e=>by simp[cY] at e
 | n+1,k,s,h,e=>by
  have hall:=fj f (n+1) k s h e
  obtain⟨hs0,hsk,_⟩:=hall
  have IH:=FM hf n
  simp only[cY] at e
  split at e
  ·rename_i h0
   split at e
   ·cases e
   ·rename_i x hx
    split at e
    ·rename_i hok
     obtain⟨q1,q2⟩:=J1 _ _ _ _ _ e
     have hkl:k < 60:=by
      have:=(List.getElem?_eq_some_iff.1 hx).1
      omega
     have hK : ∀ kid∈x.2.2.2.2.2.1,Nm f n kid ∧ ∃ s' h',cY f n kid=some (s',h'):=by
      intro kid hm
      obtain⟨p,hp⟩:=q1 kid (List.mem_reverse.2 hm)
      exact⟨(IH kid p.1 p.2 hp).1,p.1,p.2,hp⟩
     have hnode:ff f k=x:=by
      unfold ff
      rw[List.getD_eq_getElem?_getD,hx]
      rfl
     have hfx : ∀ L,bB f (n+1) k L=(if x.1=1 then(if x.2.2.1.1=2 then 34 :: (qT (lb x.2.2.1.2.2.1)++[34]) else lb (cL x.2.2.1))
      else if x.1=2 then eV x.2.2.2.1
      else if x.1=3 then eV x.2.2.2.1++58 :: eV x.2.2.2.2.1
      else if x.1=4 then 45 :: bB f n (x.2.2.2.2.2.1.getD 0 0) 5
      else if x.1=5 then(if cg x.2.1 < L then 40 :: ((bB f n (x.2.2.2.2.2.1.getD 0 0) (cg x.2.1)++(cZ x.2.1++bB f n (x.2.2.2.2.2.1.getD 1 0) (cg x.2.1+1)))++[41]) else(bB f n (x.2.2.2.2.2.1.getD 0 0) (cg x.2.1)++(cZ x.2.1++bB f n (x.2.2.2.2.2.1.getD 1 0) (cg x.2.1+1))))
      else dv x.2.1++40 :: (bW (x.2.2.2.2.2.1.map fun k=>bB f n k 1)++[41])):=by
      intro L
      conv=>lhs; unfold bB
      rw[hnode]
     have hI : ∀ L,fM f k L=_:=fun L=>(DX (x0:=f) (x1:=k) (x2:=L)).trans (dZ h0 hx)
     have hS : ∀ L,lJ f k L=_:=fun L=>(ML (x0:=f) (x1:=k) (x2:=L)).trans (dZ h0 hx)
     unfold bH kl at hok
     by_cases c1:x.1=1
     ·rw[if_pos c1] at hok
      simp only[Bool.and_eq_true,decide_eq_true_eq] at hok
      have hv:=hok.1.1.2
      have hsz:=it hv
      have b1:(x.1 == 1)=true:=by rw[c1]; rfl
      by_cases c2:x.2.2.1.1=2
      ·have b2:(x.2.2.1.1 == 2)=true:=by rw[c2]; rfl
       have hlb:(lb x.2.2.1.2.2.1).length≤200:=by rw[pP]; exact hsz
       have hq:=Pe (lb x.2.2.1.2.2.1)
       have ea : ∀ L,bB f (n+1) k L=34 :: (qT (lb x.2.2.1.2.2.1)++[34]):=fun L=>by rw[hfx,if_pos c1,if_pos c2]
       refine⟨fun L=>⟨?_,?_⟩,fun L => ?_⟩
       ·rw[hI,if_pos b1,if_pos b2,←f0 x.2.2.1.2.2.1,K9 (by omega)]
        simp only[Option.bind_some]
        rw[show(⟨#[34]⟩:ByteArray)=ba [34] from rfl,bm (by simp only[List.length_singleton]; omega),bm (by simp only[List.length_append,List.length_singleton]; omega),ea]
        simp
       ·rw[hS,if_pos b1,if_pos b2,←f0 x.2.2.1.2.2.1,Pf (by omega)]
        simp only[Option.bind_some]
        rw[ea]
       ·rw[ea]
        simp only[List.length_cons,List.length_append,List.length_nil]
        omega
      ·have b2 : ¬(x.2.2.1.1 == 2)=true:=by simpa using c2
       have hvs:=OT hv
       have ea : ∀ L,bB f (n+1) k L=lb (cL x.2.2.1):=fun L=>by rw[hfx,if_pos c1,if_neg c2]
       refine⟨fun L=>⟨?_,?_⟩,fun L => ?_⟩
       ·rw[hI,if_pos b1,if_neg b2,yv hv,ea,f0]
        rfl
       ·rw[hS,if_pos b1,if_neg b2,gk (jn hv),if_pos hv,ea,f0]
        rfl
       ·rw[ea,pP]
        omega
     rw[if_neg c1] at hok
     have b1 : ¬(x.1 == 1)=true:=by simpa using c1
     by_cases c2:x.1=2
     ·rw[if_pos c2] at hok
      simp only[Bool.and_eq_true,decide_eq_true_eq] at hok
      have b2:(x.1 == 2)=true:=by rw[c2]; rfl
      have hr:=hok.2
      have hp:=AZ hr
      have ea : ∀ L,bB f (n+1) k L=eV x.2.2.2.1:=fun L=>by rw[hfx,if_neg c1,if_pos c2]
      refine⟨fun L=>⟨?_,?_⟩,fun L => ?_⟩
      ·rw[hI,if_neg b1,if_pos b2,mU,if_pos hr,ea]
       rfl
      ·rw[hS,if_neg b1,if_pos b2,mV,if_pos hr,ea]
       rfl
      ·rw[ea]
       omega
     rw[if_neg c2] at hok
     have b2 : ¬(x.1 == 2)=true:=by simpa using c2
     by_cases c3:x.1=3
     ·rw[if_pos c3] at hok
      simp only[Bool.and_eq_true,decide_eq_true_eq] at hok
      have b3:(x.1 == 3)=true:=by rw[c3]; rfl
      have ha:=hok.2
      unfold cf at ha
      simp only[Bool.and_eq_true,decide_eq_true_eq] at ha
      have hr1:=ha.1.1.1
      have hr2:=ha.1.1.2
      have hp1:=AZ hr1
      have hp2:=AZ hr2
      have ea : ∀ L,bB f (n+1) k L=eV x.2.2.2.1++58 :: eV x.2.2.2.2.1:=fun L=>by rw[hfx,if_neg c1,if_neg c2,if_pos c3]
      refine⟨fun L=>⟨?_,?_⟩,fun L => ?_⟩
      ·rw[hI,if_neg b1,if_neg b2,if_pos b3,mU,if_pos hr1]
       simp only[Option.bind_some]
       rw[show(⟨#[58]⟩:ByteArray)=ba [58] from rfl,bm (by simp only[List.length_singleton]; omega),mU,if_pos hr2]
       simp only[Option.bind_some]
       rw[bm (by simp only[List.length_append,List.length_singleton]; omega),ea]
       simp
      ·rw[hS,if_neg b1,if_neg b2,if_pos b3,mV,if_pos hr1]
       simp only[Option.bind_some]
       rw[show(⟨#[58]⟩:ByteArray)=ba [58] from rfl,bm (by simp only[List.length_singleton]; omega),mV,if_pos hr2]
       simp only[Option.bind_some]
       rw[bm (by simp only[List.length_append,List.length_singleton]; omega),ea]
       simp
      ·rw[ea]
       simp only[List.length_append,List.length_cons]
       omega
     rw[if_neg c3] at hok
     have b3 : ¬(x.1 == 3)=true:=by simpa using c3
     by_cases c4:x.1=4
     ·rw[if_pos c4] at hok
      simp only[Bool.and_eq_true,decide_eq_true_eq] at hok
      have b4:(x.1 == 4)=true:=by rw[c4]; rfl
      obtain⟨a,hkids⟩ : ∃ a,x.2.2.2.2.2.1=[a]:=List.length_eq_one_iff.1 (by omega)
      obtain⟨hka,sa,ha,hca⟩:=hK a (by rw[hkids]; simp)
      rw[hkids] at e q2 hI hS hfx
      have hla:=fun L=>(IH a sa ha hca).2 L
      simp only[List.reverse_singleton,d7] at e
      split at e
      ·rename_i hc
       rw[hca] at e
       simp only[Option.bind_some,Option.some.injEq,Prod.mk.injEq] at e
       obtain⟨rfl,_⟩:=e
       have ea : ∀ L,bB f (n+1) k L=45 :: bB f n a 5:=fun L=>by rw[hfx,if_neg c1,if_neg c2,if_neg c3,if_pos c4]; rfl
       have h5:=hla 5
       refine⟨fun L=>⟨?_,?_⟩,fun L => ?_⟩
       ·rw[hI,if_neg b1,if_neg b2,if_neg b3,if_pos b4,dZ (y:=a) (by decide) rfl,(hka 5).1]
        simp only[Option.bind_some]
        rw[show(⟨#[45]⟩:ByteArray)=ba [45] from rfl,bm (by simp only[List.length_singleton]; omega),ea]
        rfl
       ·rw[hS,if_neg b1,if_neg b2,if_neg b3,if_pos b4,dZ (y:=a) (by decide) rfl,(hka 5).2]
        simp only[Option.bind_some]
        rw[show(⟨#[45]⟩:ByteArray)=ba [45] from rfl,bm (by simp only[List.length_singleton]; omega),ea]
        rfl
       ·rw[ea]
        simp only[List.length_cons]
        omega
      ·cases e
     rw[if_neg c4] at hok
     have b4 : ¬(x.1 == 4)=true:=by simpa using c4
     by_cases c5:x.1=5
     ·rw[if_pos c5] at hok
      simp only[Bool.and_eq_true,decide_eq_true_eq] at hok
      have b5:(x.1 == 5)=true:=by rw[c5]; rfl
      obtain⟨o1,o2⟩:=bd.1 hok.1.1.1.1
      obtain⟨a,b,hkids⟩ : ∃ a b,x.2.2.2.2.2.1=[a,b]:=Ts (by omega)
      obtain⟨hka,sa,ha,hca⟩:=hK a (by rw[hkids]; simp)
      obtain⟨hkb,sb,hb,hcb⟩:=hK b (by rw[hkids]; simp)
      rw[hkids] at e q2 hI hS hfx
      have hla:=fun L=>(IH a sa ha hca).2 L
      have hlb:=fun L=>(IH b sb hb hcb).2 L
      have hsa:=fj f n a sa ha hca
      have hsb:=fj f n b sb hb hcb
      simp only[List.reverse_cons,List.reverse_nil,List.nil_append,List.cons_append,d7] at e
      split at e
      ·rename_i hc
       rw[hcb] at e
       simp only[Option.bind_some] at e
       split at e
       ·rename_i hc2
        rw[hca] at e
        simp only[Option.bind_some,Option.some.injEq,Prod.mk.injEq] at e
        obtain⟨rfl,_⟩:=e
        have hlv:1≤cg x.2.1∧cg x.2.1≤4:=by
         unfold cg
         constructor <;> (repeat' split) <;> omega
        have ho:=wD x.2.1
        have h1:=hla (cg x.2.1)
        have h2:=hlb (cg x.2.1+1)
        have i1:=hsa.2.1
        have i2:=hsb.2.1
        have ea : ∀ L,bB f (n+1) k L=if cg x.2.1 < L then 40 :: ((bB f n a (cg x.2.1)++(cZ x.2.1++bB f n b (cg x.2.1+1)))++[41]) else(bB f n a (cg x.2.1)++(cZ x.2.1++bB f n b (cg x.2.1+1))):=fun L=>by rw[hfx,if_neg c1,if_neg c2,if_neg c3,if_neg c4,if_pos c5]; rfl
        refine⟨fun L=>⟨?_,?_⟩,fun L => ?_⟩
        ·rw[hI,if_neg b1,if_neg b2,if_neg b3,if_neg b4,if_pos b5,GQ o1 o2]
         simp only[Option.bind_some]
         rw[dZ (y:=a) (by decide) rfl,(hka _).1]
         simp only[Option.bind_some]
         rw[xI (by omega) o2]
         simp only[Option.bind_some]
         rw[bm (by omega),dZ (y:=b) (by decide) rfl,wr (by omega) (by omega),(hkb _).1]
         simp only[Option.bind_some]
         rw[bm (by simp only[List.length_append]; omega),ea]
         by_cases hL:cg x.2.1 < L
         ·rw[aI hL,if_pos hL,show(⟨#[40]⟩:ByteArray)=ba [40] from rfl,bm (by simp only[List.length_append,List.length_singleton]; omega),show(⟨#[41]⟩:ByteArray)=ba [41] from rfl,bm (by simp only[List.length_append,List.length_singleton]; omega)]
          simp
         ·rw[aE hL,if_neg hL]
          simp
        ·rw[hS,if_neg b1,if_neg b2,if_neg b3,if_neg b4,if_pos b5,vk]
         simp only[Option.bind_some]
         rw[dZ (y:=a) (by decide) rfl,(hka _).2]
         simp only[Option.bind_some]
         rw[rZ (by omega) o2]
         simp only[Option.bind_some]
         rw[bm (by omega),dZ (y:=b) (by decide) rfl,wr (by omega) (by omega),(hkb _).2]
         simp only[Option.bind_some]
         rw[bm (by simp only[List.length_append]; omega),ea]
         by_cases hL:cg x.2.1 < L
         ·rw[aI hL,if_pos hL,show(⟨#[40]⟩:ByteArray)=ba [40] from rfl,bm (by simp only[List.length_append,List.length_singleton]; omega),show(⟨#[41]⟩:ByteArray)=ba [41] from rfl,bm (by simp only[List.length_append,List.length_singleton]; omega)]
          simp
         ·rw[aE hL,if_neg hL]
          simp
        ·rw[ea]
         split <;> simp only[List.length_append,List.length_cons,List.length_nil] <;> omega
       ·cases e
      ·cases e
     rw[if_neg c5] at hok
     have b5 : ¬(x.1 == 5)=true:=by simpa using c5
     by_cases c6:x.1=6
     ·rw[if_pos c6] at hok
      simp only[Bool.and_eq_true,decide_eq_true_eq] at hok
      have hargs:=hok.1.1.1
      have hkn:1≤x.2.2.2.2.2.1.length∧x.2.2.2.2.2.1.length≤10∧0≤x.2.1∧x.2.1≤10:=by
       unfold jW at hargs
       split at hargs
       ·simp only[Bool.or_eq_true,decide_eq_true_eq] at hargs
        omega
       ·split at hargs
        ·rename_i hi
         have:=bd.1 hi
         have:=bd.1 hargs
         omega
        ·split at hargs
         ·rename_i hi
          have:=bd.1 hi
          simp only[decide_eq_true_eq] at hargs
          omega
         ·cases hargs
      have hg:=q2 (fun kid=>(bB f n kid 1).length) (fun kid s' h'' hc=>(IH kid s' h'' hc).2 1)
      rw[List.map_reverse,List.sum_reverse] at hg
      have hfn:=LW x.2.1
      have hcl : ∀ l:List Int,(bW (l.map fun k=>bB f n k 1)).length≤(l.map fun k=>(bB f n k 1).length).sum+l.length:=by
       intro l
       have:=Er (l.map fun k=>bB f n k 1)
       rw[List.map_map,List.length_map] at this
       exact this
      have hc0:=hcl x.2.2.2.2.2.1
      have ea : ∀ L,bB f (n+1) k L=dv x.2.1++40 :: (bW (x.2.2.2.2.2.1.map fun k=>bB f n k 1)++[41]):=fun L=>by rw[hfx,if_neg c1,if_neg c2,if_neg c3,if_neg c4,if_neg c5]
      refine⟨fun L=>⟨?_,?_⟩,fun L => ?_⟩
      ·rw[hI,if_neg b1,if_neg b2,if_neg b3,if_neg b4,if_neg b5,ea]
       exact Et ⟨hkn.2.2.1,hkn.2.2.2⟩ hkn.2.1 (fun k hk=>(hK k hk).1) (by omega) _ [] rfl
      ·rw[hS,if_neg b1,if_neg b2,if_neg b3,if_neg b4,if_neg b5,JS hkn.2.2.1 hkn.2.2.2]
       simp only[Option.bind_some]
       rw[show(⟨#[40]⟩:ByteArray)=ba [40] from rfl,bm (by simp only[List.length_singleton]; omega),ea]
       refine Eu hkn.2.1 (fun k hk=>(hK k hk).1) (fun pre ys hpy => ?_) hfn _ [] rfl
       have h1:=hcl pre
       have h2:(pre.map fun k=>(bB f n k 1).length).sum≤(x.2.2.2.2.2.1.map fun k=>(bB f n k 1).length).sum:=by
        rw[hpy,List.map_append,List.sum_append]
        omega
       have h3:=congrArg List.length hpy
       rw[List.length_append] at h3
       omega
      ·rw[ea]
       simp only[List.length_append,List.length_cons,List.length_nil]
       omega
     ·rw[if_neg c6] at hok
      cases hok
    ·cases e
  ·cases e
theorem FN (hl:f.length≤10000000) (hs : ∀ x∈f,x.2.2.1.2.2.1.size≤9223372036854775807) (hk : ∀ x∈f,x.2.2.2.2.2.1.length≤10000000) : ∃ t:ac,oE f=some ((ba t,()),())∧kY f=some ((ba t,()),())∧t.length≤200:=by
 rw[uw,uu,jX hl hs hk,mT hl hs hk]
 simp only[Option.bind_some]
 cases ho:fp f with
 | false=>exact⟨[],rfl,rfl,by simp⟩
 | true =>
  simp only[Bool.not_true,Bool.false_eq_true,if_false]
  have ho':=ho
  unfold fp at ho'
  rw[Bool.and_eq_true] at ho'
  have hlen:=bd.1 ho'.1
  have ht:=ho'.2
  unfold oZ at ht
  cases hc:cY f f.length ((f.length:Int) - 1) with
  | none=>rw[hc] at ht; cases ht
  | some p =>
   obtain⟨h1,h2⟩:=FM (by omega) f.length ((f.length:Int) - 1) p.1 p.2 hc
   rw[wr (by omega) (by omega),(h1 1).1,(h1 0).2,Es]
   simp only[Option.bind_some,aq]
   by_cases hb:(bB f f.length ((f.length:Int) - 1) 1).length > 200
   ·rw[aI (by omega)]
    exact⟨[],rfl,rfl,by simp⟩
   ·rw[aE (by omega)]
    exact⟨_,rfl,rfl,by omega⟩
end
end Go.Proofs.YtddiiceaindlhaaGreatDoor.Abs
