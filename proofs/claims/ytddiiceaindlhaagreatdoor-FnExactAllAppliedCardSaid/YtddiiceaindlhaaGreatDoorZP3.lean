/- Plain laws: whatever its state, the program's reader comes to an end, keeps what it has put and does not forget that it is bad. -/
import Derived.Test.YtddiiceaindlhaaGreatDoorZP2
import Derived.Lib.SplitLaws
set_option linter.unusedVariables false
set_option linter.unusedSimpArgs false
set_option linter.unusedSectionVars false
namespace Go.Proofs.YtddiiceaindlhaaGreatDoor.Abs
open Go
abbrev RI:=Option ((Int×Unit)×(pG×Unit))
def uU (x:aa):Bool:=decide (x.2.2.1.2.2.1.size≤100000) && decide (x.2.2.2.2.2.1.length≤100000)
def sm (ns:List aa):Bool:=ns.all uU
def gi (l:ae) (b:Bool) (ns:List aa) (F:RI):Prop :=
 ∃(i:Int) (l':ae) (b':Bool) (ns':List aa),F=some ((i,()),((ba l',ns',b',()),()))∧l' <:+ l∧(b=true→b'=true)∧ns <+: ns'∧ns'.length≤60∧(sm ns=true→sm ns'=true)
theorem gi.mono {l l0:ae} {b b0:Bool} {ns ns0:List aa} {F:RI} (h:gi l b ns F) (h1:l <:+ l0) (h2:b0=true→b=true) (h3:ns0 <+: ns) (h4:sm ns0=true→sm ns=true:=by exact id):gi l0 b0 ns0 F:=by
 obtain⟨i,l',b',ns',e,k1,k2,k3,k4,k5⟩:=h
 exact⟨i,l',b',ns',e,af k1 h1,fun h=>k2 (h2 h),List.IsPrefix.trans h3 k3,k4,fun h=>k5 (h4 h)⟩
theorem ne (l:ae):l <:+ l:=List.suffix_refl l
theorem eK {x:aa} {l:ae} {b:Bool} {ns:List aa} (hn:ns.length≤60) (hx:uU x=true:=by rfl):gi l b ns (az x (ba l) b ns):=by
 obtain⟨i,h,_⟩:=wZ (x:=x) (l:=l) (b:=b) hn
 refine⟨i,l,_,_,h,ne l,(fun hb=>by rw[hb]; rfl),?_,?_,?_⟩
 ·split
  ·exact⟨[x],rfl⟩
  ·exact List.prefix_refl _
 ·split
  ·rename_i h
   rw[List.length_append,List.length_singleton]
   omega
  ·exact hn
 ·intro hs
  split
  ·unfold sm at hs ⊢
   rw[List.all_append,hs]
   simp[hx]
  ·exact hs
theorem Mc {v:ay} (h:v.2.2.1.size≤100000):uU (nC v)=true:=by
 unfold uU
 rw[decide_eq_true h]
 rfl
theorem ER {op:Int} {y:List Int} (h:y.length≤100000):uU (6,op,(0,0,(⟨#[]⟩:ByteArray),()),((0,0,()),false,false,()),((0,0,()),false,false,()),y,())=true:=by
 unfold uU
 rw[Bool.and_eq_true]
 exact⟨rfl,decide_eq_true h⟩
theorem io {v:ay} {r:ByteArray} {b:Bool} {ns:List aa}:bA v r b ns=az (nC v) r b ns:=by
 rw[yZ]
 exact fM
theorem xa {i:Int} {l:ae} {b:Bool} {ns:List aa} (hn:ns.length≤60):gi l b ns (some ((i,()),((ba l,ns,true,()),()))) :=
 ⟨i,l,true,ns,rfl,ne l,fun _=>rfl,List.prefix_refl _,hn,id⟩
theorem gC {l:ae} {c:UInt8} (h:l.head? = some c) : ∃ t,l=c :: t:=by
 cases l with
 | nil=>cases h
 | cons y t =>
  simp only[List.head?_cons,Option.some.injEq] at h
  exact⟨t,by rw[h]⟩
theorem nf {l:ae} {c:UInt8} (h:(bl l).head? = some c):((bl l).drop 1).length < l.length:=by
 have:=aA (ao l)
 obtain⟨t,ht⟩:=gC h
 rw[ht] at this ⊢
 simp only[List.length_cons,List.drop_succ_cons,List.drop_zero] at this ⊢
 omega
theorem gD (l:ae):(bl l).drop 1 <:+ l:=af (fx 1 _) (ao l)
theorem Ke (l:ae):(bl l).dropWhile aE <:+ l:=af (List.dropWhile_suffix _) (ao l)
theorem F6 (l:ae):(iC (bl l)).dropWhile aE <:+ l :=
 af (List.dropWhile_suffix _) (af (ao _) (af (fx 1 _) (af (ao _) (Ke l))))
section
variable {n:Nat} (HB : ∀ l:ae,l.length < n → ∀(deep least:Int) (b:Bool) (ns:List aa),0≤deep→deep+(l.length:Int)≤400→ns.length≤60→gi l b ns (bg least deep (ba l) b ns))
include HB
theorem Hq : ∀(m:Nat) (l:ae) (op deep:Int) (b:Bool) (kids:List Int) (ns:List aa),l.length=m→l.length < n→0≤deep→deep+1+(l.length:Int)≤400→kids.length+l.length≤10000→ns.length≤60→gi l b ns (bK op deep (ba l) b kids ns):=by
 intro m
 induction m using Nat.strongRecOn with
 | ind m ih =>
  intro l op deep b kids ns hm hln hd0 hd hk hn
  subst hm
  rw[gZ]
  cases b with
  | true =>
   simp only[Bool.not_true,Bool.false_eq_true,if_false,fM]
   exact eK hn (ER (by omega))
  | false =>
   have tail : ∀(l2:ae) (b2:Bool) (ns2:List aa) (y:List Int),l2 <:+ l→ns <+: ns2→ns2.length≤60→y.length=kids.length+1→(sm ns=true→sm ns2=true) →
     gi l false ns ((aZ (⟨#[44]⟩:ByteArray) (ba l2) b2 ns2).bind fun z3=>(if(!z3.1.1)=true then(if z3.2.1.2.2.1=true then((az (6,op,(0,0,(⟨#[]⟩:ByteArray),()),((0,0,()),false,false,()),((0,0,()),false,false,()),y,()) z3.2.1.1 true z3.2.1.2.1).bind fun z4=>(some ((z4.1.1,()),(z4.2.1,())))) else((aZ (⟨#[41]⟩:ByteArray) z3.2.1.1 z3.2.1.2.2.1 z3.2.1.2.1).bind fun z5=>((az (6,op,(0,0,(⟨#[]⟩:ByteArray),()),((0,0,()),false,false,()),((0,0,()),false,false,()),y,()) z5.2.1.1 (!z5.1.1) z5.2.1.2.1).bind fun z6=>(some ((z6.1.1,()),(z6.2.1,())))))) else(bK op deep z3.2.1.1 z3.2.1.2.2.1 y z3.2.1.2.1))):=by
    intro l2 b2 ns2 y hs hp hn2 hy hsm
    have hl2:=aA hs
    rw[show(⟨#[44]⟩:ByteArray)=ba [44] from rfl,cw (by omega)]
    simp only[Option.bind_some,gp (c:=44) (.inr (.inr (.inr (.inl rfl)))),fM,List.length_singleton]
    by_cases hc:(bl l2).head? = some 44
    ·have hlt:=nf hc
     simp only[hc,decide_true,Bool.not_true,Bool.false_eq_true,if_false,if_true]
     exact(ih _ (by omega) _ op deep b2 y ns2 rfl (by omega) hd0 (by omega) (by omega) hn2).mono (af (gD l2) hs) (fun h=>by cases h) hp hsm
    ·simp only[hc,decide_false,Bool.not_false,if_true,if_false]
     have hbl:=aA (ao l2)
     cases b2 with
     | true =>
      simp only[if_true]
      exact(eK hn2 (ER (by omega))).mono (af (ao l2) hs) (fun h=>by cases h) hp hsm
     | false =>
      simp only[Bool.false_eq_true,if_false]
      rw[show(⟨#[41]⟩:ByteArray)=ba [41] from rfl,cw (by omega)]
      simp only[Option.bind_some,fM]
      refine(eK hn2 (ER (by omega))).mono ?_ (fun h=>by cases h) hp hsm
      split
      ·exact af (af (fx _ _) (ao _)) (af (ao l2) hs)
      ·exact af (ao _) (af (ao l2) hs)
   simp only[Bool.not_false,if_true]
   rw[C4 (by omega)]
   by_cases ha:yT (bl l)=true
   ·rw[if_pos ha]
    simp only[Option.bind_some,if_true]
    obtain⟨i2,l2,b2,ns2,h2,k1,k2,k3,k4,k5⟩:=eK (x:=nA (co ((bl l).takeWhile aE)).1 (co ((iC (bl l)).takeWhile aE)).1) (l:=(iC (bl l)).dropWhile aE) (b:=(false || !(co ((iC (bl l)).takeWhile aE)).2)) hn
    rw[h2]
    simp only[Option.bind_some]
    rw[bo (by simp only[List.length_singleton]; omega)]
    exact tail _ _ _ _ (af k1 (F6 l)) k3 k4 (by simp) k5
   ·rw[if_neg ha]
    simp only[Option.bind_some,Bool.false_eq_true,if_false]
    rw[wr (by omega) (by omega)]
    obtain⟨i2,l2,b2,ns2,h2,k1,k2,k3,k4,k5⟩:=HB l hln (deep+1) 1 false ns (by omega) hd hn
    rw[h2]
    simp only[Option.bind_some]
    rw[bo (by simp only[List.length_singleton]; omega)]
    exact tail _ _ _ _ k1 k3 k4 (by simp) k5
theorem Q8 {l:ae} {op deep:Int} {b:Bool} {ns:List aa} (hln:l.length < n) (hd0:0≤deep) (hd:deep+1+(l.length:Int)≤400) (hn:ns.length≤60):gi l b ns (fG op deep (ba l) b ns):=by
 rw[oY]
 cases b with
 | true =>
  rw[if_pos rfl,zU]
  simp only[Bool.not_true,Bool.false_eq_true,if_false,fM]
  exact eK hn (ER (by simp))
 | false =>
  rw[if_neg (by decide),show(⟨#[40]⟩:ByteArray)=ba [40] from rfl,cw (by omega)]
  simp only[Option.bind_some]
  have hs:(if sg (bl l)=[40] then(bl l).drop ([40]:ae).length else bl l) <:+ l:=by
   split
   ·exact gD l
   ·exact ao l
  have:=aA hs
  exact(Hq HB _ _ op deep _ [] ns rfl (by omega) hd0 (by omega) (by simp only[List.length_nil]; omega) hn).mono hs (fun h=>by cases h) (List.prefix_refl _)
theorem Q9 {deep:Int} {w r:ae} {b:Bool} {ns:List aa} (hln:lf.find? (fun k=>decide (dj k=w))≠none→r.length < n∧deep+1+(r.length:Int)≤400) (hd0:0≤deep) (hn:ns.length≤60):gi r b ns (eB deep w r b ns):=by
 unfold eB
 split
 ·rename_i hc
  rw[io]
  exact eK hn (Mc (Nat.le_trans (il (pY hc.1).1) (by decide)))
 ·split
  ·exact eK hn
  ·cases hf:lf.find? (fun k=>decide (dj k=w)) with
   | some k =>
    obtain⟨h1,h2⟩:=hln (by rw[hf]; simp)
    exact Q8 HB h1 hd0 h2 hn
   | none=>exact xa hn
end
end Go.Proofs.YtddiiceaindlhaaGreatDoor.Abs
set_option linter.unusedVariables false
set_option linter.unusedSimpArgs false
set_option linter.unusedSectionVars false
namespace Go.Proofs.YtddiiceaindlhaaGreatDoor.Abs
open Go
theorem Md {w:ae} (h:lf.find? (fun k=>decide (dj k=w))≠none) : ∃ k,lf.find? (fun k=>decide (dj k=w))=some k∧dj k=w∧k∈lf∧w≠[]:=by
 cases hf:lf.find? (fun k=>decide (dj k=w)) with
 | none=>exact absurd hf h
 | some k =>
  have h1:=List.find?_some hf
  have h2:=List.mem_of_find?_eq_some hf
  have h3:dj k=w:=by simpa using h1
  refine⟨k,rfl,h3,h2,?_⟩
  have : ∀ k∈lf,dj k≠[]:=by decide
  rw[←h3]
  exact this k h2
theorem Me {l:ae} (h:(bl l).takeWhile aE≠[]):((bl l).dropWhile aE).length < l.length:=by
 have h1:=aA (ao l)
 have h2:=congrArg List.length (List.takeWhile_append_dropWhile (p:=aE) (l:=bl l))
 rw[List.length_append] at h2
 have h3:=List.length_pos_iff.2 h
 omega
theorem NE {l:ae} {b:Bool} {ns:List aa} (hl:l.length≤900) (hn:ns.length≤60):gi (34 :: l) b ns (iU (ba (34 :: l)) b ns):=by
 rw[yk hl]
 cases hq:qt l with
 | none=>exact xa hn
 | some p =>
  obtain⟨h1,h2,_⟩:=Px l p.1 p.2 hq
  show gi _ b ns (bA _ _ b ns)
  rw[io]
  refine(eK hn (Mc ?_)).mono (af h1 ⟨[34],rfl⟩) id (List.prefix_refl _)
  show(ba ([]++p.1)).size≤_
  rw[aq]
  simp only[List.nil_append]
  omega
theorem Hr (l:ae):(bl (35 :: l)).takeWhile aE=[]∧(bl (35 :: l)).dropWhile aE=35 :: l:=by
 have h1:bl (35 :: l)=35 :: l:=List.dropWhile_cons_of_neg (by decide)
 rw[h1]
 exact⟨List.takeWhile_cons_of_neg (by decide),List.dropWhile_cons_of_neg (by decide)⟩
theorem F7 {deep:Int} {l:ae} {b:Bool} {ns:List aa} (hl:l.length≤800):du deep 1 (ba (35 :: l)) b ns=match pb.find? (fZ l) with
  | some n=>bA (vE n) (ba (l.drop (c8 n).length)) b ns
  | none=>some ((-1,()),((ba (35 :: l),ns,true,()),())):=by
 have h:=Ho (deep:=deep) (l:=l) (b:=b) (ns:=ns) (by omega) pb [] rfl
 have h:du deep 1 (ba (35 :: l)) b ns=_:=h
 rw[h]
 cases pb.find? (fZ l) with
 | some n=>rfl
 | none =>
  simp only
  rw[T3 (by rw[List.length_cons]; omega),(Hr l).1,(Hr l).2]
  have e1 : ¬((bq []).2=true∧((bq []).1.1=1∨(bq []).1.1=3)):=by decide +kernel
  have e2 : ¬(co []).2=true:=by decide +kernel
  have e3:lf.find? (fun k=>decide (dj k=[]))=none:=by decide +kernel
  unfold eB
  rw[if_neg e1,if_neg e2,e3]
theorem Ra {l:ae} (HB : ∀ l':ae,l'.length < l.length → ∀(deep least:Int) (b:Bool) (ns:List aa),0≤deep→deep+(l'.length:Int)≤400→ns.length≤60→gi l' b ns (bg least deep (ba l') b ns))
  {deep:Int} {b:Bool} {ns:List aa} (hd0:0≤deep) (hd:deep+(l.length:Int)≤400) (hn:ns.length≤60):gi l b ns (eU deep (ba l) b ns):=by
 have hbl:=aA (ao l)
 rw[p5 (by omega)]
 by_cases c1:(bl l).head? = some 34
 ·rw[if_pos c1]
  obtain⟨t,ht⟩:=gC c1
  have htl:t.length+1=(bl l).length:=by rw[ht]; simp
  rw[ht]
  exact(NE (by omega) hn).mono (by rw[←ht]; exact ao l) id (List.prefix_refl _)
 ·rw[if_neg c1]
  by_cases c2:(bl l).head? = some 35
  ·rw[if_pos c2]
   obtain⟨t,ht⟩:=gC c2
   have htl:t.length+1=(bl l).length:=by rw[ht]; simp
   have hts:t <:+ l:=af ⟨[35],by rw[ht]; rfl⟩ (ao l)
   rw[ht,F7 (by omega)]
   cases pb.find? (fZ t) with
   | some n =>
    simp only
    rw[io]
    exact(eK hn (Mc (by show eS.size≤_; decide))).mono (af (fx _ _) hts) id (List.prefix_refl _)
   | none=>exact(xa hn).mono (by rw[←ht]; exact ao l) id (List.prefix_refl _)
  ·rw[if_neg c2]
   by_cases c3:(bl l).head? = some 40
   ·rw[if_pos c3]
    have hlt:=nf c3
    rw[wr (by omega) (by omega)]
    obtain⟨i2,l2,b2,ns2,h2,k1,k2,k3,k4,k5⟩:=HB _ hlt (deep+1) 1 b ns (by omega) (by omega) hn
    rw[h2]
    simp only[Option.bind_some]
    have hl2:=aA k1
    have hs2:l2 <:+ l:=af k1 (gD l)
    cases b2 with
    | true =>
     simp only[if_true]
     exact⟨i2,l2,true,ns2,rfl,hs2,fun _=>rfl,k3,k4,k5⟩
    | false =>
     simp only[Bool.false_eq_true,if_false]
     rw[show(⟨#[41]⟩:ByteArray)=ba [41] from rfl,cw (by omega)]
     simp only[Option.bind_some]
     refine⟨i2,_,_,ns2,rfl,?_,(fun h=>by have:=k2 h; cases this),k3,k4,k5⟩
     split
     ·exact af (af (fx _ _) (ao _)) hs2
     ·exact af (ao _) hs2
   ·rw[if_neg c3]
    refine(Q9 HB (fun h => ?_) hd0 hn).mono (Ke l) id (List.prefix_refl _)
    obtain⟨k,_,_,_,hw⟩:=Md h
    have:=Me hw
    omega
theorem PC : ∀(m:Nat) (l:ae),l.length=m→(∀ l':ae,l'.length < l.length → ∀(deep least:Int) (b:Bool) (ns:List aa),0≤deep→deep+(l'.length:Int)≤400→ns.length≤60→gi l' b ns (bg least deep (ba l') b ns)) →
  ∀(deep:Int) (b:Bool) (ns:List aa),0≤deep→deep+(l.length:Int)≤400→ns.length≤60→gi l b ns (et deep (ba l) b ns):=by
 intro m
 induction m using Nat.strongRecOn with
 | ind m ih =>
  intro l hm HB deep b ns hd0 hd hn
  subst hm
  rw[jw,av (by omega)]
  cases b with
  | true =>
   simp only[if_true]
   exact xa hn
  | false =>
   simp only[Bool.false_eq_true,if_false,fM]
   rw[show(⟨#[45]⟩:ByteArray)=ba [45] from rfl,cw (by omega)]
   simp only[Option.bind_some,gp (c:=45) (.inl rfl),List.length_singleton]
   have hbl:=aA (ao l)
   by_cases hc:(bl l).head? = some 45
   ·have hlt:=nf hc
    simp only[hc,decide_true,if_true]
    rw[wr (by omega) (by omega)]
    obtain⟨i2,l2,b2,ns2,h2,k1,k2,k3,k4,k5⟩:=ih _ hlt _ rfl (fun l' h'=>HB l' (by omega)) (deep+1) false ns (by omega) (by omega) hn
    rw[h2]
    simp only[Option.bind_some]
    exact(eK k4).mono (af k1 (gD l)) (fun h=>by cases h) k3 k5
   ·simp only[hc,decide_false,Bool.false_eq_true,if_false]
    exact(Ra (l:=bl l) (fun l' h'=>HB l' (by omega)) hd0 (by omega) hn).mono (ao l) id (List.prefix_refl _)
theorem xb {least deep left:Int} {op:Int} {l:ae} {ns:List aa} (ho:0≤op) (ho2:op≤11) (hl:l.length≤900) (hs:op≠0→sg (bl l)=c7 op):cj least deep left op 12 (ba l) false ns =
  if op=0∨cd op < least then some ((left,()),((ba l,ns,false,()),()))
  else((bg (cd op+1) deep (ba ((bl l).drop (c7 op).length)) false ns).bind fun z7=>((az (5,op,(0,0,(⟨#[]⟩:ByteArray),()),((0,0,()),false,false,()),((0,0,()),false,false,()),([left,z7.1.1]:(List Int)),()) z7.2.1.1 z7.2.1.2.2.1 z7.2.1.2.1).bind fun z8=>(ci least deep z8.1.1 z8.2.1.1 z8.2.1.2.2.1 z8.2.1.2.1))):=by
 rw[o0,av (by decide)]
 by_cases h0:op=0
 ·rw[if_pos (by rw[h0]; rfl),if_pos (.inl h0)]
 ·have h0' : ¬(op == 0)=true:=by simpa using h0
  have hlv:1≤cd op∧cd op≤4:=by
   unfold cd
   repeat' split
   all_goals omega
  rw[if_neg h0',Hm (by omega) ho2]
  simp only[Option.bind_some]
  by_cases h1:cd op < least
  ·rw[aD h1,if_pos (.inr h1)]
  ·rw[av h1,if_neg (by omega),yf ho ho2]
   simp only[Option.bind_some]
   rw[cw (by omega),hs h0]
   simp only[Option.bind_some,if_true]
   rw[wr (by omega) (by omega)]
theorem Kf {l:ae} (h:dH (bl l)≠0):((bl l).drop (c7 (dH (bl l))).length).length < l.length:=by
 have h1:=aA (ao l)
 have h2:=pZ h
 have h3:=Bp (J4 (bl l))
 have h4:1≤(c7 (dH (bl l))).length:=by
  have:=ld (bl l)
  have h5 : ∀ k:Fin 12,k.val≠0→1≤(c7 (k.val:Int)).length:=by decide
  have:=h5 ⟨(dH (bl l)).toNat,by omega⟩ (by simp only; omega)
  simp only[Int.toNat_of_nonneg (ld (bl l)).1] at this
  exact this
 rw[h2] at h3
 rw[List.length_drop]
 omega
theorem yl : ∀(m:Nat) (l:ae),l.length=m→(∀ l':ae,l'.length < l.length → ∀(deep least:Int) (b:Bool) (ns:List aa),0≤deep→deep+(l'.length:Int)≤400→ns.length≤60→gi l' b ns (bg least deep (ba l') b ns)) →
  ∀(least deep left:Int) (b:Bool) (ns:List aa),0≤deep→deep+(l.length:Int)≤400→ns.length≤60→gi l b ns (ci least deep left (ba l) b ns):=by
 intro m
 induction m using Nat.strongRecOn with
 | ind m ih =>
  intro l hm HB least deep left b ns hd0 hd hn
  subst hm
  rw[eV]
  cases b with
  | true=>exact xa hn
  | false =>
   simp only[Bool.not_false,if_true]
   have hbl:=aA (ao l)
   obtain⟨o1,o2⟩:=ld (bl l)
   rw[tN (by omega),xb o1 o2 (by omega) (fun h=>by rw[df]; exact pZ h),df]
   split
   ·exact⟨left,bl l,false,ns,rfl,ao l,fun h=>h,List.prefix_refl _,hn,id⟩
   ·rename_i hop
    have hop':dH (bl l)≠0:=fun e=>hop (.inl e)
    have hlt:=Kf hop'
    obtain⟨i2,l2,b2,ns2,h2,k1,k2,k3,k4,k5⟩:=HB _ hlt deep (cd (dH (bl l))+1) false ns hd0 (by omega) hn
    rw[h2]
    simp only[Option.bind_some]
    obtain⟨i3,l3,b3,ns3,h3,j1,j2,j3,j4,j5⟩:=eK (x:=(5,dH (bl l),(0,0,(⟨#[]⟩:ByteArray),()),((0,0,()),false,false,()),((0,0,()),false,false,()),([left,i2]:(List Int)),())) (l:=l2) (b:=b2) k4
    rw[h3]
    simp only[Option.bind_some]
    have hs2:=aA k1
    have hs3:=aA j1
    exact(ih _ (by omega) l3 rfl (fun l' h'=>HB l' (by omega)) least deep i3 b3 ns3 hd0 (by omega) j4).mono (af j1 (af k1 (af (fx _ _) (ao l)))) (fun h=>by cases h) (List.IsPrefix.trans k3 j3) (fun h=>j5 (k5 h))
theorem NF : ∀(m:Nat) (l:ae),l.length=m → ∀(deep least:Int) (b:Bool) (ns:List aa),0≤deep→deep+(l.length:Int)≤400→ns.length≤60→gi l b ns (bg least deep (ba l) b ns):=by
 intro m
 induction m using Nat.strongRecOn with
 | ind m ih =>
  intro l hm deep least b ns hd0 hd hn
  subst hm
  have HB : ∀ l':ae,l'.length < l.length → ∀(deep least:Int) (b:Bool) (ns:List aa),0≤deep→deep+(l'.length:Int)≤400→ns.length≤60→gi l' b ns (bg least deep (ba l') b ns) :=
   fun l' h' deep least b ns d0 d1 hn=>ih _ h' l' rfl deep least b ns d0 d1 hn
  rw[ma]
  obtain⟨i2,l2,b2,ns2,h2,k1,k2,k3,k4,k5⟩:=PC _ l rfl HB deep b ns hd0 hd hn
  rw[h2]
  simp only[Option.bind_some]
  have hs2:=aA k1
  exact(yl _ l2 rfl (fun l' h'=>HB l' (by omega)) least deep i2 b2 ns2 hd0 (by omega) k4).mono k1 k2 k3 k5
end Go.Proofs.YtddiiceaindlhaaGreatDoor.Abs
set_option linter.unusedVariables false
set_option linter.unusedSimpArgs false
set_option linter.unusedSectionVars false
namespace Go.Proofs.YtddiiceaindlhaaGreatDoor.Abs
open Go
abbrev RS:=Option ((Int×Unit)×(jW×Unit))
def dl (ns:List aa):Bool:=ns.all bG
theorem PD {ns ns':List aa} (h:ns <+: ns') (k:dl ns=false):dl ns'=false:=by
 obtain⟨r,rfl⟩:=h
 unfold dl at k ⊢
 rw[List.all_append,k]
 rfl
def Dm (b:Bool) (ns:List aa):Prop:=(b=true∨dl ns=false)∧sm ns=true
theorem Hs {x:aa} (h:bG x=true):uU x=true:=by
 have:x.2.2.1.2.2.1.size≤100000∧x.2.2.2.2.2.1.length≤100000:=by
  unfold bG kl at h
  split at h
  ·simp only[Bool.and_eq_true,decide_eq_true_eq] at h
   have:=il h.1.1.2
   omega
  ·split at h
   ·simp only[Bool.and_eq_true,decide_eq_true_eq] at h
    rw[h.1.1.1.2]
    exact⟨by decide,by omega⟩
   ·split at h
    ·simp only[Bool.and_eq_true,decide_eq_true_eq] at h
     rw[h.1.1.2]
     exact⟨by decide,by omega⟩
    ·split at h
     ·simp only[Bool.and_eq_true,decide_eq_true_eq] at h
      rw[h.1.1.1.2]
      exact⟨by decide,by omega⟩
     ·split at h
      ·simp only[Bool.and_eq_true,decide_eq_true_eq] at h
       rw[h.1.1.1.2]
       exact⟨by decide,by omega⟩
      ·split at h
       ·simp only[Bool.and_eq_true,decide_eq_true_eq] at h
        rw[h.1.1.2]
        refine⟨by decide,?_⟩
        have h2:=h.1.1.1
        unfold jO at h2
        split at h2
        ·simp only[Bool.or_eq_true,decide_eq_true_eq] at h2
         omega
        ·split at h2
         ·have:=bc.1 h2
          omega
         ·split at h2
          ·simp only[decide_eq_true_eq] at h2
           omega
          ·cases h2
       ·cases h
 unfold uU
 rw[decide_eq_true this.1,decide_eq_true this.2]
 rfl
theorem tP {ns:List aa} (h:dl ns=true):sm ns=true:=by
 unfold dl at h
 unfold sm
 rw[List.all_eq_true] at h ⊢
 exact fun x hx=>Hs (h x hx)
theorem ES {ns:List aa} (h:dl ns=true):Dm true ns:=⟨.inl rfl,tP h⟩
theorem gi.dm {l:ae} {b:Bool} {ns:List aa} {F:RI} (h:gi l b ns F) (hd:Dm b ns) : ∃(i:Int) (l':ae) (b':Bool) (ns':List aa),F=some ((i,()),((ba l',ns',b',()),()))∧l' <:+ l∧Dm b' ns'∧ns'.length≤60:=by
 obtain⟨i,l',b',ns',e,k1,k2,k3,k4,k5⟩:=h
 exact⟨i,l',b',ns',e,k1,⟨hd.1.elim (fun h => .inl (k2 h)) (fun h => .inr (PD k3 h)),k5 hd.2⟩,k4⟩
def mA (s m:ae) (L:Int) (F:RI) (G:RS):Prop :=
 (∃(i:Int) (l1 l2:ae) (ns:List aa),F=some ((i,()),((ba l1,ns,false,()),()))∧G=some ((i,()),((ba s,bD s l2,false,ns,()),()))∧bl l1=bl l2∧l1 <:+ m∧l2 <:+ m∧dl ns=true∧ns.length≤60∧(dH (bl l1)=0∨cd (dH (bl l1)) < L))
 ∨ (∃(i:Int) (l1:ae) (b1:Bool) (ns1:List aa) (j:Int) (l2:ae) (ns2:List aa),F=some ((i,()),((ba l1,ns1,b1,()),()))∧Dm b1 ns1∧l1 <:+ m∧ns1.length≤60∧G=some ((j,()),((ba s,bD s l2,true,ns2,()),()))∧l2 <:+ s∧ns2.length≤61+m.length)
theorem NG (k:Int):cd k < 5:=by
 unfold cd
 repeat' split
 all_goals omega
theorem mA.mono {s m m':ae} {L:Int} {F:RI} {G:RS} (h:mA s m L F G) (hm:m <:+ m'):mA s m' L F G:=by
 have:=aA hm
 rcases h with⟨i,l1,l2,ns,e1,e2,h1,h2,h3,h4,h5,h6⟩ | ⟨i,l1,b1,ns1,j,l2,ns2,e1,h1,h2,h3,e2,h4,h5⟩
 ·exact .inl ⟨i,l1,l2,ns,e1,e2,h1,af h2 hm,af h3 hm,h4,h5,h6⟩
 ·exact .inr ⟨i,l1,b1,ns1,j,l2,ns2,e1,h1,af h2 hm,h3,e2,h4,by omega⟩
theorem Mf {ns:List aa} {x:aa} (h:sm ns=true) (hx:uU x=true):sm (ns++[x])=true:=by
 unfold sm at h ⊢
 rw[List.all_append,h]
 simp[hx]
theorem Kg {x:aa} (h:uU x=true):x.2.2.1.2.2.1.size≤9223372036854775807:=by
 unfold uU at h
 rw[Bool.and_eq_true,decide_eq_true_eq] at h
 exact Nat.le_trans h.1 (by decide)
theorem p6 {s m l1 l2:ae} {x:aa} {ns:List aa} (hsx:uU x=true) (h1:bl l1=bl l2) (k1:l1 <:+ m) (k2:l2 <:+ m) (hms:m <:+ s) (ho:dl ns=true) (hn:ns.length≤60) :
  mA s m 5 (az x (ba l1) false ns) (bX x (ba s) (bD s l2) false ns):=by
 have hx:=Kg hsx
 obtain⟨i,e,hi⟩:=wZ (x:=x) (l:=l1) (b:=false) hn
 rw[e,F4 (by omega) hx]
 by_cases hlt:ns.length < 60
 ·have hi:=hi rfl hlt
  subst hi
  have d60:decide (60≤ns.length)=false:=decide_eq_false (by omega)
  rw[d60,if_pos ⟨rfl,hlt⟩]
  simp only[Bool.false_or]
  cases hk:bG x with
  | true =>
   refine .inl ⟨_,l1,l2,ns++[x],rfl,rfl,h1,k1,k2,?_,?_,.inr (NG _)⟩
   ·unfold dl at ho ⊢
    rw[List.all_append,ho]
    simp[hk]
   ·rw[List.length_append,List.length_singleton]; omega
  | false =>
   refine .inr ⟨_,l1,false,ns++[x],(ns.length:Int),l2,ns++[x],rfl,⟨.inr ?_,Mf (tP ho) hsx⟩,k1,?_,rfl,af k2 hms,?_⟩
   ·unfold dl
    rw[List.all_append]
    simp[hk]
   ·rw[List.length_append,List.length_singleton]; omega
   ·rw[List.length_append,List.length_singleton]; omega
 ·have d60:decide (60≤ns.length)=true:=decide_eq_true (by omega)
  rw[d60,if_neg (by omega)]
  refine .inr ⟨i,l1,true,ns,(ns.length:Int),l2,ns++[x],rfl,ES ho,k1,hn,?_,af k2 hms,?_⟩
  ·simp
  ·rw[List.length_append,List.length_singleton]; omega
theorem Kh {s:ae} {a:Int} {x:aa} {ns:List aa} (hn:ns.length≤1000) (hx:x.2.2.1.2.2.1.size≤9223372036854775807):bX x (ba s) a true ns=some (((ns.length:Int),()),((ba s,a,true,ns++[x],()),())):=by
 rw[F4 hn hx]
 rfl
theorem NH {op:Int} {s:ByteArray} {a:Int} {b:Bool} {ns:List aa} {kids:List Int}:rj op s a b ns kids=cM op s a b kids ns:=by
 rw[CU,mc]
theorem Ht {op:Int} {s:ByteArray} {a:Int} {ns:List aa} {kids:List Int}:cM op s a true kids ns=some ((0,()),((s,a,true,ns,()),())):=by
 rw[mc]
 rfl
abbrev nF (op:Int) (kids:List Int):aa:=(6,op,(0,0,(⟨#[]⟩:ByteArray),()),((0,0,()),false,false,()),((0,0,()),false,false,()),kids,())
noncomputable def ym (op deep:Int) (y:List Int) (r:ByteArray) (b:Bool) (ns:List aa):RI :=
 (aZ (⟨#[44]⟩:ByteArray) r b ns).bind fun z3=>(if(!z3.1.1)=true then(if z3.2.1.2.2.1=true then((az (nF op y) z3.2.1.1 true z3.2.1.2.1).bind fun z4=>(some ((z4.1.1,()),(z4.2.1,())))) else((aZ (⟨#[41]⟩:ByteArray) z3.2.1.1 z3.2.1.2.2.1 z3.2.1.2.1).bind fun z5=>((az (nF op y) z5.2.1.1 (!z5.1.1) z5.2.1.2.1).bind fun z6=>(some ((z6.1.1,()),(z6.2.1,())))))) else(bK op deep z3.2.1.1 z3.2.1.2.2.1 y z3.2.1.2.1))
theorem Lq {op deep:Int} {l:ae} {kids:List Int} {ns:List aa} (hl:l.length≤900):bK op deep (ba l) false kids ns =
  if yT (bl l)=true then(az (nA (co ((bl l).takeWhile aE)).1 (co ((iC (bl l)).takeWhile aE)).1) (ba ((iC (bl l)).dropWhile aE)) (!(co ((iC (bl l)).takeWhile aE)).2) ns).bind fun z2=>(app kids ([z2.1.1]:(List Int)) 8 fun y1=>ym op deep y1 z2.2.1.1 z2.2.1.2.2.1 z2.2.1.2.1)
  else(bg 1 (IntKind.i64.wrap (deep+1)) (ba l) false ns).bind fun z7=>(app kids ([z7.1.1]:(List Int)) 8 fun y2=>ym op deep y2 z7.2.1.1 z7.2.1.2.2.1 z7.2.1.2.1):=by
 rw[gZ]
 simp only[Bool.not_false,if_true]
 rw[C4 hl]
 by_cases ha:yT (bl l)=true
 ·rw[if_pos ha,if_pos ha]
  simp only[Option.bind_some,if_true,Bool.false_or]
  rfl
 ·rw[if_neg ha,if_neg ha]
  simp only[Option.bind_some,Bool.false_eq_true,if_false]
  rfl
theorem Bt : ∀(l:ae),∀(deep least:Int) (b:Bool) (ns:List aa),0≤deep→deep+(l.length:Int)≤400→ns.length≤60→gi l b ns (bg least deep (ba l) b ns):=fun l=>NF _ l rfl
theorem yn {op deep:Int} {y:List Int} {l:ae} {b:Bool} {ns:List aa} (hd0:0≤deep) (hd:deep+1+(l.length:Int)≤400) (hy:y.length+l.length≤9000) (hn:ns.length≤60):gi l b ns (ym op deep y (ba l) b ns):=by
 have hbl:=aA (ao l)
 unfold ym
 rw[show(⟨#[44]⟩:ByteArray)=ba [44] from rfl,cw (by omega)]
 simp only[Option.bind_some,fM]
 by_cases hc:sg (bl l)=[44]
 ·have hc':(bl l).head? = some 44:=by rw[←gp (c:=44) (.inr (.inr (.inr (.inl rfl))))]; exact hc
  have hlt:=nf hc'
  simp only[hc,decide_true,Bool.not_true,Bool.false_eq_true,if_false,if_true,List.length_singleton]
  exact(Hq (n:=l.length+1) (fun l' _ deep least b ns d0 d1 hn=>Bt l' deep least b ns d0 d1 hn) _ _ op deep b y ns rfl (by omega) hd0 (by omega) (by omega) hn).mono (gD l) id (List.prefix_refl _)
 ·simp only[hc,decide_false,Bool.not_false,if_true,if_false]
  cases b with
  | true =>
   simp only[if_true]
   exact(eK hn (ER (by omega))).mono (ao l) (fun _=>rfl) (List.prefix_refl _)
  | false =>
   simp only[Bool.false_eq_true,if_false]
   rw[show(⟨#[41]⟩:ByteArray)=ba [41] from rfl,cw (by omega)]
   simp only[Option.bind_some,fM]
   refine(eK hn (ER (by omega))).mono ?_ (fun h=>by cases h) (List.prefix_refl _)
   split
   ·exact af (af (fx _ _) (ao _)) (ao l)
   ·exact af (ao _) (ao l)
noncomputable def Bu (op:Int) (y:List Int) (s:ByteArray) (a:Int) (b:Bool) (ns:List aa):RS :=
 (dB (⟨#[41]⟩:ByteArray) s a b ns).bind fun z2=>(if z2.1.1=true then((bX (nF op y) z2.2.1.1 z2.2.1.2.1 z2.2.1.2.2.1 z2.2.1.2.2.2.1).bind fun z3=>(some ((z3.1.1,()),(z3.2.1,())))) else((dB (⟨#[44]⟩:ByteArray) z2.2.1.1 z2.2.1.2.1 z2.2.1.2.2.1 z2.2.1.2.2.2.1).bind fun z4=>(if(!z4.1.1)=true then(cM op z4.2.1.1 z4.2.1.2.1 true y z4.2.1.2.2.2.1) else(cM op z4.2.1.1 z4.2.1.2.1 z4.2.1.2.2.1 y z4.2.1.2.2.2.1))))
theorem uV {op:Int} {y:List Int} {s l:ae} {ns:List aa} (hs:s.length≤900) (h:l <:+ s) : ∃ l',l' <:+ s∧Bu op y (ba s) (bD s l) true ns=some ((0,()),((ba s,bD s l',true,ns,()),())):=by
 unfold Bu
 rw[show(⟨#[41]⟩:ByteArray)=ba [41] from rfl,gX (by omega) (by decide) h]
 simp only[Option.bind_some,Bool.not_true,Bool.false_and,Bool.false_eq_true,if_false]
 rw[show(⟨#[44]⟩:ByteArray)=ba [44] from rfl,gX (by omega) (by decide) (af (ao l) h)]
 simp only[Option.bind_some,Bool.not_true,Bool.false_and,Bool.false_eq_true,if_false,Bool.not_false,if_true]
 exact⟨bl (bl l),af (ao _) (af (ao l) h),Ht⟩
theorem Lr {op:Int} {s l:ae} {kids:List Int} {ns:List aa}:cM op (ba s) (bD s l) false kids ns=(qJ (ba s) (bD s l) false ns).bind fun z1=>(app kids ([z1.1.1]:(List Int)) 8 fun y1=>Bu op y1 z1.2.1.1 z1.2.1.2.1 z1.2.1.2.2.1 z1.2.1.2.2.2.1):=by
 rw[mc]
 rfl
theorem Sy {s l:ae} {ns:List aa} (hs:s.length≤900) (h:l <:+ s):qJ (ba s) (bD s l) false ns =
  if yT (bl l)=true then(if(co ((iC (bl l)).takeWhile aE)).2=true then bX (nA (co ((bl l).takeWhile aE)).1 (co ((iC (bl l)).takeWhile aE)).1) (ba s) (bD s ((iC (bl l)).dropWhile aE)) false ns
   else some ((0,()),((ba s,bD s ((iC (bl l)).dropWhile aE),true,ns,()),())))
  else eG 1 (ba s) (bD s (bl l)) false ns:=by
 have hm:=af (ao l) h
 have hr:=af (Ke l) h
 have hsl:=aA h
 have h1:=aA (ao l)
 have h2:=lg aE (bl l)
 have h3:=aA (F6 l)
 rw[JC,J6 (by omega) h]
 simp only[Option.bind_some]
 rw[C2 (by omega) hm]
 simp only[Option.bind_some]
 rw[rm (by omega)]
 simp only[Option.bind_some]
 unfold yT
 cases hp:(co ((bl l).takeWhile aE)).2 with
 | false=>simp only[Bool.false_and,Bool.false_eq_true,if_false,gh]
 | true =>
  simp only[if_true,Bool.true_and]
  rw[show(⟨#[58]⟩:ByteArray)=ba [58] from rfl,gX (by omega) (by decide) hr]
  simp only[Option.bind_some,Bool.not_false,Bool.true_and,CX]
  by_cases hc:(bl ((bl l).dropWhile aE)).head? = some 58
  ·simp only[hc,decide_true,if_true,List.length_singleton]
   have hq:(bl ((bl l).dropWhile aE)).drop 1 <:+ s:=af (gD _) hr
   rw[J6 (by omega) hq]
   simp only[Option.bind_some]
   have hq2:iC (bl l) <:+ s:=af (ao _) hq
   rw[show bl ((bl ((bl l).dropWhile aE)).drop 1)=iC (bl l) from rfl,C2 (by omega) hq2]
   simp only[Option.bind_some]
   have h4:=lg aE (iC (bl l))
   have h5:=aA hq2
   rw[rm (by omega)]
   simp only[Option.bind_some,gh]
   cases (co ((iC (bl l)).takeWhile aE)).2 <;> simp
  ·simp only[hc,decide_false,Bool.false_eq_true,if_false,gh]
end Go.Proofs.YtddiiceaindlhaaGreatDoor.Abs
set_option linter.unusedVariables false
set_option linter.unusedSimpArgs false
set_option linter.unusedSectionVars false
namespace Go.Proofs.YtddiiceaindlhaaGreatDoor.Abs
open Go
theorem p7 {s m m':ae} {L L':Int} {F:RI} {G:RS} {K:(Int×Unit)×(pG×Unit)→RI} {K':(Int×Unit)×(jW×Unit)→RS} (h:mA s m L F G)
  (hg : ∀(i:Int) (l1 l2:ae) (ns:List aa),bl l1=bl l2→l1 <:+ m→l2 <:+ m→dl ns=true→ns.length≤60→(dH (bl l1)=0∨cd (dH (bl l1)) < L)→mA s m' L' (K ((i,()),((ba l1,ns,false,()),()))) (K' ((i,()),((ba s,bD s l2,false,ns,()),()))))
  (hd : ∀(i:Int) (l1:ae) (b1:Bool) (ns1:List aa) (j:Int) (l2:ae) (ns2:List aa),Dm b1 ns1→l1 <:+ m→ns1.length≤60→l2 <:+ s→ns2.length≤61+m.length→mA s m' L' (K ((i,()),((ba l1,ns1,b1,()),()))) (K' ((j,()),((ba s,bD s l2,true,ns2,()),())))) :
  mA s m' L' (F.bind K) (G.bind K'):=by
 rcases h with⟨i,l1,l2,ns,rfl,rfl,h1,h2,h3,h4,h5,h6⟩ | ⟨i,l1,b1,ns1,j,l2,ns2,rfl,h1,h2,h3,rfl,h4,h5⟩
 ·exact hg i l1 l2 ns h1 h2 h3 h4 h5 h6
 ·exact hd i l1 b1 ns1 j l2 ns2 h1 h2 h3 h4 h5
theorem iA {s m:ae} {L:Int} {F:RI} {G:RS} {l1:ae} {b1:Bool} {ns1:List aa} {j:Int} {l2:ae} {ns2:List aa} (hF:gi l1 b1 ns1 F) (hd:Dm b1 ns1) (h1:l1 <:+ m) (hG:G=some ((j,()),((ba s,bD s l2,true,ns2,()),()))) (h2:l2 <:+ s) (h3:ns2.length≤61+m.length):mA s m L F G:=by
 obtain⟨i,l',b',ns',e,k1,k2,k3⟩:=hF.dm hd
 exact .inr ⟨i,l',b',ns',j,l2,ns2,e,k2,af k1 h1,k3,hG,h2,h3⟩
def PE (s:ae) (n:Nat):Prop := ∀(l l0:ae),bl l=bl l0→l <:+ s→l0 <:+ s→(bl l).length < n → ∀(L deep:Int) (ns:List aa),1≤L→L≤5→0≤deep→deep+((bl l).length:Int)≤200→dl ns=true→ns.length≤60 →
 mA s (bl l) L (bg L deep (ba l) false ns) (eG L (ba s) (bD s l0) false ns)
theorem jA {c:UInt8} {l:ae}:([c]:ae).isPrefixOf l=decide (l.head? = some c):=CX c l
theorem Rb {s:ae} (hs:s.length≤200) {n:Nat} (HB:PE s n) : ∀(k:Nat) (l1 l2:ae),(bl l1).length=k→bl l1=bl l2→l1 <:+ s→l2 <:+ s→(bl l1).length < n → ∀(op deep:Int) (kids:List Int) (ns:List aa),0≤deep→deep+1+((bl l1).length:Int)≤200→kids.length+(bl l1).length≤1000→dl ns=true→ns.length≤60 →
  mA s (bl l1) 5 (bK op deep (ba l1) false kids ns) (cM op (ba s) (bD s l2) false kids ns):=by
 intro k
 induction k using Nat.strongRecOn with
 | ind k ih =>
  intro l1 l2 hk hb hs1 hs2 hn op deep kids ns hd0 hd hkl ho hns
  subst hk
  have hl1:=aA hs1
  have hm1:=aA (ao l1)
  have hms:bl l1 <:+ s:=af (ao l1) hs1
  rw[Lq (by omega),Lr,Sy (by omega) hs2,←hb]
  have doom : ∀(y:List Int) (x1:ae) (b1:Bool) (ns1:List aa) (x2:ae) (ns2:List aa),y.length=kids.length+1→Dm b1 ns1→x1 <:+ bl l1→ns1.length≤60→x2 <:+ s→ns2.length≤61+(bl l1).length →
    mA s (bl l1) 5 (ym op deep y (ba x1) b1 ns1) (Bu op y (ba s) (bD s x2) true ns2):=by
   intro y x1 b1 ns1 x2 ns2 hy hdm hx1 hn1 hx2 hn2
   have hlx:=aA hx1
   obtain⟨l',h1,h2⟩:=uV (op:=op) (y:=y) (ns:=ns2) (by omega) hx2
   exact iA (yn hd0 (by omega) (by omega) hn1) hdm hx1 h2 h1 hn2
  have good : ∀(y:List Int) (x1 x2:ae) (ns:List aa),y.length=kids.length+1→bl x1=bl x2→x1 <:+ bl l1→x2 <:+ bl l1→dl ns=true→ns.length≤60 →
    mA s (bl l1) 5 (ym op deep y (ba x1) false ns) (Bu op y (ba s) (bD s x2) false ns):=by
   intro y x1 x2 ns hy hbx hx1 hx2 ho hn
   have hlx:=aA hx1
   have hblx:=aA (ao x1)
   have hx2s:=af hx2 hms
   have c41 : ¬(41:UInt8)=44:=by decide
   have c44 : ¬(44:UInt8)=41:=by decide
   unfold ym Bu
   rw[show(⟨#[44]⟩:ByteArray)=ba [44] from rfl,show(⟨#[41]⟩:ByteArray)=ba [41] from rfl,cw (by omega),gX (by omega) (by decide) hx2s]
   simp only[Option.bind_some,gp (c:=44) (.inr (.inr (.inr (.inl rfl)))),fM,gh,List.length_singleton,Bool.not_false,Bool.true_and,jA,←hbx]
   by_cases h44:(bl x1).head? = some 44
   ·have h41 : ¬(bl x1).head? = some 41:=by rw[h44]; simp
    simp only[h44,h41,decide_true,decide_false,Bool.not_true,Bool.false_eq_true,if_false,if_true,Option.some.injEq,c44]
    rw[gX (by omega) (by decide) (af (ao x1) (af hx1 hms))]
    simp only[Option.bind_some,Bool.not_false,Bool.true_and,jA,df,h44,decide_true,if_true,Bool.not_true,Bool.false_eq_true,if_false,List.length_singleton]
    have hlt:=nf h44
    have hb2:=aA (ao ((bl x1).drop 1))
    have hsx:(bl x1).drop 1 <:+ bl l1:=af (gD x1) hx1
    exact(ih _ (by omega) _ _ rfl rfl (af hsx hms) (af hsx hms) (by omega) op deep y ns hd0 (by omega) (by omega) ho hn).mono (af (ao _) hsx)
   ·simp only[h44,decide_false,Bool.not_false,if_true,if_false,Bool.false_eq_true]
    rw[cw (by omega)]
    simp only[Option.bind_some,gp (c:=41) (.inr (.inr (.inl rfl))),df,List.length_singleton]
    by_cases h41:(bl x1).head? = some 41
    ·simp only[h41,decide_true,if_true,Bool.not_true]
     have hsx:(bl x1).drop 1 <:+ bl l1:=af (gD x1) hx1
     exact p6 (ER (by omega)) rfl hsx hsx hms ho hn
    ·simp only[h41,decide_false,if_false,Bool.not_false,Bool.false_eq_true]
     rw[gX (by omega) (by decide) (af (ao x1) (af hx1 hms))]
     simp only[Option.bind_some,Bool.not_false,Bool.true_and,jA,df,h44,decide_false,if_true,Bool.false_eq_true,if_false]
     have hsx:bl x1 <:+ bl l1:=af (ao x1) hx1
     exact iA (eK hn (ER (by omega))) (ES ho) hsx Ht (af hsx hms) (by omega)
  by_cases ha:yT (bl l1)=true
  ·rw[if_pos ha,if_pos ha]
   have hX:(iC (bl l1)).dropWhile aE <:+ bl l1:=by
    have:=F6 (bl l1)
    rw[df] at this
    exact this
   cases h2:(co ((iC (bl l1)).takeWhile aE)).2 with
   | true =>
    simp only[Bool.not_true,if_true]
    refine p7 (p6 (m:=bl l1) rfl rfl hX hX hms ho hns) ?_ ?_
    ·intro i x1 x2 ns' e1 e2 e3 e4 e5 _
     simp only
     rw[bo (by simp only[List.length_singleton]; omega),bo (by simp only[List.length_singleton]; omega)]
     exact good _ _ _ _ (by simp) e1 e2 e3 e4 e5
    ·intro i x1 b1 ns1 j x2 ns2 e1 e2 e3 e4 e5
     simp only
     rw[bo (by simp only[List.length_singleton]; omega),bo (by simp only[List.length_singleton]; omega)]
     have:kids++[i]=kids++[i]:=rfl
     by_cases hij:i=j
     ·subst hij
      exact doom _ _ _ _ _ _ (by simp) e1 e2 e3 e4 e5
     ·obtain⟨l',h1,h2⟩:=uV (op:=op) (y:=kids++[j]) (ns:=ns2) (by omega) e4
      have hlx:=aA e2
      exact iA (yn hd0 (by omega) (by simp only[List.length_append,List.length_singleton]; omega) e3) e1 e2 h2 h1 e5
   | false =>
    simp only[Bool.not_false,Bool.false_eq_true,if_false]
    obtain⟨i,h3,_⟩:=wZ (x:=nA (co ((bl l1).takeWhile aE)).1 (co ((iC (bl l1)).takeWhile aE)).1) (l:=(iC (bl l1)).dropWhile aE) (b:=true) hns
    rw[h3]
    simp only[Option.bind_some,Bool.true_eq_false,false_and,if_false,Bool.true_or]
    rw[bo (by simp only[List.length_singleton]; omega),bo (by simp only[List.length_singleton]; omega)]
    obtain⟨l',h1,h2⟩:=uV (op:=op) (y:=kids++[0]) (ns:=ns) (by omega) (af hX hms)
    have hlx:=aA hX
    exact iA (yn hd0 (by omega) (by simp only[List.length_append,List.length_singleton]; omega) hns) (ES ho) hX h2 h1 (by omega)
  ·rw[if_neg ha,if_neg ha,wr (by omega) (by omega)]
   refine p7 (HB l1 (bl l1) (df l1).symm hs1 hms hn 1 (deep+1) ns (by decide) (by decide) (by omega) (by omega) ho hns) ?_ ?_
   ·intro i x1 x2 ns' e1 e2 e3 e4 e5 _
    simp only
    rw[bo (by simp only[List.length_singleton]; omega),bo (by simp only[List.length_singleton]; omega)]
    exact good _ _ _ _ (by simp) e1 e2 e3 e4 e5
   ·intro i x1 b1 ns1 j x2 ns2 e1 e2 e3 e4 e5
    simp only
    rw[bo (by simp only[List.length_singleton]; omega),bo (by simp only[List.length_singleton]; omega)]
    obtain⟨l',h1,h2⟩:=uV (op:=op) (y:=kids++[j]) (ns:=ns2) (by omega) e4
    have hlx:=aA e2
    exact iA (yn hd0 (by omega) (by simp only[List.length_append,List.length_singleton]; omega) e3) e1 e2 h2 h1 e5
end Go.Proofs.YtddiiceaindlhaaGreatDoor.Abs
set_option linter.unusedVariables false
set_option linter.unusedSimpArgs false
set_option linter.unusedSectionVars false
namespace Go.Proofs.YtddiiceaindlhaaGreatDoor.Abs
open Go
theorem Hu {p:UInt8→Bool} {c:UInt8} : ∀ {l:ae},c∈l.takeWhile p→p c=true
 | [],h=>by simp at h
 | x :: l,h=>by
  cases hx:p x with
  | true =>
   rw[List.takeWhile_cons_of_pos hx] at h
   rcases List.mem_cons.1 h with rfl | h
   ·exact hx
   ·exact Hu h
  | false =>
   rw[List.takeWhile_cons_of_neg (by rw[hx]; decide)] at h
   cases h
theorem Rc {w:ae} (hw : ∀ c∈w,aE c=true) (h:(bq w).2=true):(w≠[])↔((bq w).1.1=1∨(bq w).1.1=3):=by
 constructor
 ·intro hne
  obtain⟨k1,k2⟩:=pY h
  rcases qy k1 with e | ⟨n,e,_⟩ | ⟨t,e⟩ | ⟨b,e⟩ | ⟨n,e,h0⟩
  ·rw[e] at k2
   exact absurd (q7 (b:=[]) k2.symm) hne
  ·rw[e]; exact .inl rfl
  ·rw[e] at k2
   exfalso
   have e2:w=39 :: lb t:=by
    have:ba w=ba (39 :: lb t):=by
     rw[←k2]
     show(⟨#[39]⟩:ByteArray)++t=_
     rw[←fX t,show(⟨#[39]⟩:ByteArray)=ba [39] from rfl,mz,dk]
     rfl
    exact q7 this
   exact absurd (hw 39 (by rw[e2]; simp)) (by decide)
  ·rw[e]; exact .inr rfl
  ·rw[e] at k2
   exfalso
   have f : ∀ n:Fin 6,1≤n.val→cT (n.val:Int)=ba (35 :: c8 (n.val:Int)):=by decide +kernel
   have e2:w=35 :: c8 (n.val:Int):=by
    have:ba w=ba (35 :: c8 (n.val:Int)):=by
     rw[←k2]
     exact f n h0
    exact q7 this
   exact absurd (hw 35 (by rw[e2]; simp)) (by decide)
 ·rintro hk rfl
  have:(bq []).1.1=0:=rfl
  omega
theorem RR {s:ByteArray} {a:Int} {ns:List aa}:eG 5 s a false ns=uw s a false ns:=by
 rw[zP]
 simp only[Bool.false_eq_true,if_false,gh]
 rfl
abbrev NI (k:Int):aa:=(4,0,(0,0,(⟨#[]⟩:ByteArray),()),((0,0,()),false,false,()),((0,0,()),false,false,()),([k]:(List Int)),())
theorem PF:ByteArray.size ⟨#[]⟩≤9223372036854775807:=by decide
theorem p8 {s m:ae} {L i j:Int} {l1 l2:ae} {b:Bool} {ns1 ns2:List aa} (hd:Dm b ns1) (h1:l1 <:+ m) (h2:ns1.length≤60) (h3:l2 <:+ s) (h4:ns2.length≤61+m.length):mA s m L (some ((i,()),((ba l1,ns1,b,()),()))) (some ((j,()),((ba s,bD s l2,true,ns2,()),()))) :=
 .inr ⟨i,l1,b,ns1,j,l2,ns2,rfl,hd,h1,h2,rfl,h3,h4⟩
theorem Rd {s:ae} (hs:s.length≤200) {n:Nat} (HB:PE s n) {m:ae} (hbm:bl m=m) (hms:m <:+ s) (hmn:m.length≤n) {deep:Int} {ns:List aa} (hd0:0≤deep) (hd:deep+(m.length:Int)≤200) (ho:dl ns=true) (hn:ns.length≤60) :
  mA s m 5 (eB deep (m.takeWhile aE) (m.dropWhile aE) false ns) ((lB (ba s) (bD s m) false ns).bind fun z10=>(fg z10.1.1 1 z10.2.1.1 z10.2.1.2.1 z10.2.1.2.2.1 z10.2.1.2.2.2.1)):=by
 have hml:=aA hms
 have hwl:=lg aE m
 have hrm:m.dropWhile aE <:+ m:=List.dropWhile_suffix _
 have hrs:=af hrm hms
 have hrl:=aA hrm
 rw[C2 (by omega) hms]
 simp only[Option.bind_some]
 obtain⟨l',hl',e⟩:=Kd (w:=m.takeWhile aE) (s:=s) (ns:=ns) (by omega) (by omega) lf [] (m.dropWhile aE) rfl hrs
 have e:fg (ba (m.takeWhile aE)) 1 (ba s) (bD s (m.dropWhile aE)) false ns=_:=e
 rw[e]
 have hl's:l' <:+ m:=by
  rcases hl' with rfl | rfl
  ·exact hrm
  ·exact af (ao _) hrm
 have hlb:bl l'=bl (m.dropWhile aE):=by
  rcases hl' with rfl | rfl
  ·rfl
  ·exact df _
 cases hf:lf.find? (fun k=>decide (dj k=m.takeWhile aE)) with
 | some k =>
  obtain⟨k',hk',hkw,hkm,hne⟩:=Md (w:=m.takeWhile aE) (by rw[hf]; simp)
  rw[hf] at hk'
  cases hk'
  have hno : ∀ k∈lf,(bq (dj k)).2=false∧(co (dj k)).2=false:=by decide +kernel
  obtain⟨v1,v2⟩:=hno k hkm
  rw[hkw] at v1 v2
  have hlt:=Me (l:=m) (by rw[hbm]; exact hne)
  rw[hbm] at hlt
  have ei:eB deep (m.takeWhile aE) (m.dropWhile aE) false ns=fG k deep (ba (m.dropWhile aE)) false ns:=by
   unfold eB
   rw[if_neg (by rw[v1]; simp),if_neg (by rw[v2]; simp),hf]
  rw[ei,oY,if_neg (by decide),show(⟨#[40]⟩:ByteArray)=ba [40] from rfl,cw (by omega)]
  simp only[Option.bind_some,gp (c:=40) (.inr (.inl rfl)),jA,List.length_singleton]
  by_cases h40:(bl (m.dropWhile aE)).head? = some 40
  ·simp only[h40,decide_true,Bool.and_true,hf,if_true,Bool.not_true]
   have hdl:=nf h40
   have hds:(bl (m.dropWhile aE)).drop 1 <:+ m:=af (gD _) hrm
   have hb2:=aA (ao ((bl (m.dropWhile aE)).drop 1))
   rw[HS,NH]
   exact(Rb hs HB _ _ _ rfl rfl (af hds hms) (af hds hms) (by omega) k deep [] ns hd0 (by omega) (by simp only[List.length_nil]; omega) ho hn).mono (af (ao _) hds)
  ·simp only[h40,decide_false,Bool.and_false,if_false,Bool.not_false]
   have e0:lf.find? (fun _=>false)=none:=rfl
   rw[e0]
   simp only
   have es:p4 (m.takeWhile aE) s (bD s l') false ns=some ((0,()),((ba s,bD s l',true,ns,()),())):=by
    unfold p4
    rw[if_neg (by rw[v1]; simp),if_neg (by rw[v2]; simp)]
   rw[es,gZ]
   simp only[Bool.not_true,Bool.false_eq_true,if_false,fM]
   exact iA (eK hn (ER (by simp))) (ES ho) (af (ao _) hrm) rfl (af hl's hms) (by omega)
 | none =>
  have e0:lf.find? (fun k=>decide (dj k=m.takeWhile aE) && ([40]:ae).isPrefixOf (bl (m.dropWhile aE)))=none:=by
   rw[List.find?_eq_none] at hf ⊢
   intro k hk
   have:=hf k hk
   simp only[decide_eq_true_eq] at this
   simp[this]
  rw[e0]
  simp only
  unfold p4 eB
  rw[hf]
  have hv:=fun h=>Rc (w:=m.takeWhile aE) (fun c hc=>Hu hc) h
  by_cases hc:(bq (m.takeWhile aE)).2=true∧m.takeWhile aE≠[]
  ·rw[if_pos hc,if_pos ⟨hc.1,(hv hc.1).1 hc.2⟩,io]
   exact p6 (Mc (Nat.le_trans (il (pY hc.1).1) (by decide))) hlb.symm hrm hl's hms ho hn
  ·rw[if_neg hc,if_neg (fun h=>hc ⟨h.1,(hv h.1).2 h.2⟩)]
   by_cases hp:(co (m.takeWhile aE)).2=true
   ·rw[if_pos hp,if_pos hp]
    exact p6 rfl hlb.symm hrm hl's hms ho hn
   ·rw[if_neg hp,if_neg hp]
    exact p8 (ES ho) hrm hn (af hl's hms) (by omega)
theorem PG {s:ae} (hs:s.length≤200) {n:Nat} (HB:PE s n) : ∀(k:Nat) (l l0:ae),(bl l).length=k→bl l=bl l0→l <:+ s→l0 <:+ s→(bl l).length≤n → ∀(deep:Int) (ns:List aa),0≤deep→deep+((bl l).length:Int)≤200→dl ns=true→ns.length≤60 →
  mA s (bl l) 5 (et deep (ba l) false ns) (uw (ba s) (bD s l0) false ns):=by
 intro k
 induction k using Nat.strongRecOn with
 | ind k ih =>
  intro l l0 hk hb hs1 hs2 hln deep ns hd0 hd ho hn
  subst hk
  have hl1:=aA hs1
  have hm1:=aA (ao l)
  have hms:bl l <:+ s:=af (ao l) hs1
  rw[jw,av (by omega),JD,show(⟨#[45]⟩:ByteArray)=ba [45] from rfl,show(⟨#[40]⟩:ByteArray)=ba [40] from rfl,show(⟨#[34]⟩:ByteArray)=ba [34] from rfl,show(⟨#[35]⟩:ByteArray)=ba [35] from rfl,show(⟨#[41]⟩:ByteArray)=ba [41] from rfl,cw (by omega),gX (by omega) (by decide) hs2]
  simp only[Option.bind_some,Bool.false_eq_true,if_false,fM,gh,gp (c:=45) (.inl rfl),List.length_singleton,Bool.not_false,Bool.true_and,jA,←hb]
  by_cases h45:(bl l).head? = some 45
  ·simp only[h45,decide_true,if_true]
   have hlt:=nf h45
   have hX:(bl l).drop 1 <:+ bl l:=fx 1 _
   have hbX:=aA (ao ((bl l).drop 1))
   have hlX:((bl l).drop 1).length < (bl l).length:=by
    obtain⟨t,ht⟩:=gC h45
    rw[ht]
    simp
   rw[wr (by omega) (by omega),RR]
   refine p7 (ih _ (by omega) _ _ rfl rfl (af hX hms) (af hX hms) (by omega) (deep+1) ns (by omega) (by omega) ho hn) ?_ ?_
   ·intro i x1 x2 ns' e1 e2 e3 e4 e5 _
    exact p6 (x:=NI i) rfl e1 (af e2 (af (ao _) hX)) (af e3 (af (ao _) hX)) hms e4 e5
   ·intro i x1 b1 ns1 j x2 ns2 e1 e2 e3 e4 e5
    refine iA (eK e3) e1 (af e2 (af (ao _) hX)) (Kh (x:=NI j) (ns:=ns2) (by omega) PF) e4 ?_
    show(ns2++[NI j]).length≤_
    rw[List.length_append,List.length_singleton]
    omega
  ·simp only[h45,decide_false,Bool.false_eq_true,if_false]
   rw[p5 (by omega),gX (by omega) (by decide) hms]
   simp only[Option.bind_some,df,Bool.not_false,Bool.true_and,jA,List.length_singleton]
   by_cases h40:(bl l).head? = some 40
   ·have n34 : ¬(bl l).head? = some 34:=by rw[h40]; decide
    have n35 : ¬(bl l).head? = some 35:=by rw[h40]; decide
    simp only[h40,decide_true,if_true]
    rw[if_neg (by decide),if_neg (by decide)]
    have hX:(bl l).drop 1 <:+ bl l:=fx 1 _
    have hbX:=aA (ao ((bl l).drop 1))
    have hlX:((bl l).drop 1).length < (bl l).length:=by
     obtain⟨t,ht⟩:=gC h40
     rw[ht]
     simp
    rw[wr (by omega) (by omega)]
    refine p7 (HB _ _ rfl (af hX hms) (af hX hms) (by omega) 1 (deep+1) ns (by decide) (by decide) (by omega) (by omega) ho hn) ?_ ?_
    ·intro i x1 x2 ns' e1 e2 e3 e4 e5 _
     have hx1:x1 <:+ bl l:=af e2 (af (ao _) hX)
     have hx2:x2 <:+ bl l:=af e3 (af (ao _) hX)
     have hlx:=aA hx1
     simp only[Bool.false_eq_true,if_false]
     rw[cw (by omega),gX (by omega) (by decide) (af hx2 hms)]
     simp only[Option.bind_some,gp (c:=41) (.inr (.inr (.inl rfl))),List.length_singleton,Bool.not_false,Bool.true_and,jA,←e1]
     by_cases h41:(bl x1).head? = some 41
     ·simp only[h41,decide_true,if_true,Bool.not_true,Bool.false_eq_true,if_false]
      have hd1:(bl x1).drop 1 <:+ bl l:=af (gD x1) hx1
      exact .inl ⟨i,(bl x1).drop 1,(bl x1).drop 1,ns',rfl,rfl,rfl,hd1,hd1,e4,e5,.inr (NG _)⟩
     ·simp only[h41,decide_false,if_false,Bool.not_false,Bool.false_eq_true,if_true]
      have hd1:bl x1 <:+ bl l:=af (ao x1) hx1
      exact p8 (ES e4) hd1 e5 (af hd1 hms) (by omega)
    ·intro i x1 b1 ns1 j x2 ns2 e1 e2 e3 e4 e5
     have hx1:x1 <:+ bl l:=af e2 (af (ao _) hX)
     have hlx:=aA hx1
     rw[gX (by omega) (by decide) e4]
     simp only[Option.bind_some,Bool.not_true,Bool.false_and,Bool.false_eq_true,if_false,Bool.not_false,if_true]
     cases b1 with
     | true =>
      simp only[if_true]
      exact p8 ⟨.inl rfl,e1.2⟩ hx1 e3 (af (ao x2) e4) (by omega)
     | false =>
      simp only[Bool.false_eq_true,if_false]
      rw[cw (by omega)]
      simp only[Option.bind_some]
      have hdm:dl ns1=false:=e1.1.elim (fun h=>by cases h) id
      refine p8 ⟨.inr hdm,e1.2⟩ ?_ e3 (af (ao x2) e4) (by omega)
      split
      ·exact af (af (fx _ _) (ao _)) hx1
      ·exact af (ao _) hx1
   ·simp only[h40,decide_false,Bool.false_eq_true,if_false]
    rw[gX (by omega) (by decide) hms]
    simp only[Option.bind_some,df,Bool.not_false,Bool.true_and,jA,List.length_singleton]
    by_cases h34:(bl l).head? = some 34
    ·simp only[h34,decide_true,if_true]
     obtain⟨t,ht⟩:=gC h34
     have htl:t.length+1=(bl l).length:=by rw[ht]; simp
     have hts:t <:+ bl l:=⟨[34],by rw[ht]; rfl⟩
     rw[ht]
     simp only[List.drop_succ_cons,List.drop_zero]
     rw[yk (by omega),Q7 (by omega) (af hts hms)]
     cases hq:qt t with
     | none =>
      rw[←ht]
      exact p8 (ES ho) (ne _) hn ⟨s,by simp⟩ (by omega)
     | some p =>
      obtain⟨q1,q2,q3⟩:=Px t p.1 p.2 hq
      show mA s _ 5 (bA _ _ false ns) (bX _ _ _ false ns)
      rw[io,←ht]
      have hp:=af q1 hts
      refine p6 (x:=nC (2,0,ba ([]++p.1),())) (Mc ?_) rfl hp hp hms ho hn
      show(ba ([]++p.1)).size≤_
      rw[aq]
      simp only[List.nil_append]
      omega
    ·simp only[h34,decide_false,Bool.false_eq_true,if_false]
     rw[gX (by omega) (by decide) hms]
     simp only[Option.bind_some,df,Bool.not_false,Bool.true_and,jA,List.length_singleton]
     by_cases h35:(bl l).head? = some 35
     ·simp only[h35,decide_true,if_true]
      obtain⟨t,ht⟩:=gC h35
      have htl:t.length+1=(bl l).length:=by rw[ht]; simp
      have hts:t <:+ bl l:=⟨[35],by rw[ht]; rfl⟩
      rw[ht]
      simp only[List.drop_succ_cons,List.drop_zero]
      have es:=Hp (s:=s) (l:=t) (b:=false) (ns:=ns) (by omega) (af hts hms) pb [] rfl
      have es:ia 1 (ba s) (bD s t) false ns=_:=es
      rw[F7 (by omega),es]
      cases pb.find? (fZ t) with
      | none =>
       simp only
       rw[←ht]
       exact p8 (ES ho) (ne _) hn (af hts hms) (by omega)
      | some e =>
       simp only
       rw[io,←ht]
       have hp:=af (fx (c8 e).length t) hts
       exact p6 (x:=nC (vE e)) (Mc (by show eS.size≤_; decide)) rfl hp hp hms ho hn
     ·simp only[h35,decide_false,Bool.false_eq_true,if_false]
      exact Rd hs HB (df l) hms hln hd0 hd ho hn
end Go.Proofs.YtddiiceaindlhaaGreatDoor.Abs
set_option linter.unusedVariables false
set_option linter.unusedSimpArgs false
set_option linter.unusedSectionVars false
namespace Go.Proofs.YtddiiceaindlhaaGreatDoor.Abs
open Go
noncomputable def Ak:Nat→Int→(Int×Unit)×(jW×Unit)→RS
 | 0,_,z=>some ((z.1.1,()),(z.2.1,()))
 | c+1,L,z=>(dh (L+(c:Int)) z.1.1 z.2.1.1 z.2.1.2.1 z.2.1.2.2.1 z.2.1.2.2.2.1).bind (Ak c L)
theorem F8 {L a:Int} {s:ByteArray} {i:Int} {ns:List aa}:dh L a s i true ns=some ((a,()),((s,i,true,ns,()),())):=by
 rw[uK]
 rfl
theorem Bv : ∀(c:Nat) (L a:Int) (s:ByteArray) (i:Int) (ns:List aa),Ak c L ((a,()),((s,i,true,ns,()),()))=some ((a,()),((s,i,true,ns,()),()))
 | 0,_,_,_,_,_=>rfl
 | c+1,L,a,s,i,ns=>by
  show(dh _ a s i true ns).bind (Ak c L)=_
  rw[F8]
  exact Bv c L a s i ns
theorem Ki : ∀(c:Nat) (L:Int) (z:(Int×Unit)×(jW×Unit)),Ak (c+1) L z=(Ak c (L+1) z).bind fun z2=>dh L z2.1.1 z2.2.1.1 z2.2.1.2.1 z2.2.1.2.2.1 z2.2.1.2.2.2.1
 | 0,L,z=>by
  show(dh (L+((0:Nat):Int)) z.1.1 z.2.1.1 z.2.1.2.1 z.2.1.2.2.1 z.2.1.2.2.2.1).bind (fun z=>some ((z.1.1,()),(z.2.1,())))=dh L z.1.1 z.2.1.1 z.2.1.2.1 z.2.1.2.2.1 z.2.1.2.2.2.1
  rw[gh,show L+((0:Nat):Int)=L by omega]
 | c+1,L,z=>by
  show(dh (L+((c+1:Nat):Int)) z.1.1 z.2.1.1 z.2.1.2.1 z.2.1.2.2.1 z.2.1.2.2.2.1).bind (Ak (c+1) L)=((dh (L+1+(c:Int)) z.1.1 z.2.1.1 z.2.1.2.1 z.2.1.2.2.1 z.2.1.2.2.2.1).bind (Ak c (L+1))).bind _
  rw[show L+((c+1:Nat):Int)=L+1+(c:Int) by omega,Option.bind_assoc]
  congr 1
  funext y
  exact Ki c L y
theorem ET {s:ByteArray} {a:Int} {ns:List aa} : ∀(c:Nat) (L:Int),L+(c:Int)=5→1≤L→eG L s a false ns=(eG 5 s a false ns).bind (Ak c L)
 | 0,L,h,_=>by
  have:L=5:=by omega
  subst this
  exact gh.symm
 | c+1,L,h,h1=>by
  have hL : ¬(L == 5)=true:=by simp only[beq_iff_eq]; omega
  rw[zP,if_neg (by decide),if_neg hL,wr (by omega) (by omega),ET c (L+1) (by omega) (by omega),Option.bind_assoc]
  congr 1
  funext z
  exact(Ki c L z).symm
abbrev nB (op a b:Int):aa:=(5,op,(0,0,(⟨#[]⟩:ByteArray),()),((0,0,()),false,false,()),((0,0,()),false,false,()),([a,b]:(List Int)),())
theorem Re {s m' l1 l2:ae} {L':Int} {x:aa} {ns:List aa} {K:(Int×Unit)×(pG×Unit)→RI} {K':(Int×Unit)×(jW×Unit)→RS} (hsx:uU x=true) (ho:dl ns=true) (hn:ns.length≤60)
  (hg:dl (ns++[x])=true→(ns++[x]).length≤60→mA s m' L' (K (((ns.length:Int),()),((ba l1,ns++[x],false,()),()))) (K' (((ns.length:Int),()),((ba s,bD s l2,false,ns++[x],()),()))))
  (hd : ∀(i:Int) (b1:Bool) (ns1:List aa),Dm b1 ns1→ns1.length≤60→mA s m' L' (K ((i,()),((ba l1,ns1,b1,()),()))) (K' (((ns.length:Int),()),((ba s,bD s l2,true,ns++[x],()),())))) :
  mA s m' L' ((az x (ba l1) false ns).bind K) ((bX x (ba s) (bD s l2) false ns).bind K'):=by
 have hx:=Kg hsx
 obtain⟨i,e,hi⟩:=wZ (x:=x) (l:=l1) (b:=false) hn
 rw[e,F4 (by omega) hx]
 simp only[Option.bind_some]
 by_cases hlt:ns.length < 60
 ·have hi:=hi rfl hlt
  subst hi
  have d60:decide (60≤ns.length)=false:=decide_eq_false (by omega)
  simp only[d60,hlt,and_self,if_true,Bool.false_or]
  cases hk:bG x with
  | true =>
   refine hg ?_ ?_
   ·unfold dl at ho ⊢
    rw[List.all_append,ho]
    simp[hk]
   ·rw[List.length_append,List.length_singleton]; omega
  | false =>
   refine hd _ false (ns++[x]) ⟨.inr ?_,Mf (tP ho) hsx⟩ ?_
   ·unfold dl
    rw[List.all_append]
    simp[hk]
   ·rw[List.length_append,List.length_singleton]; omega
 ·have d60:decide (60≤ns.length)=true:=decide_eq_true (by omega)
  rw[d60,if_neg (by omega)]
  simp only[Bool.false_or,Bool.true_or]
  exact hd i true ns (ES ho) hn
theorem Rf {s:ae} (hs:s.length≤200) {n:Nat} (HB:PE s n) : ∀(k c:Nat) (l1 l2 M:ae),(bl l1).length=k→bl l1=bl l2→l1 <:+ M→l2 <:+ M→M <:+ s→(bl l1).length≤n → ∀(L left deep:Int) (ns:List aa),1≤L→L+(c:Int)≤5→0≤deep→deep+((bl l1).length:Int)≤200→dl ns=true→ns.length≤60→(dH (bl l1)=0∨cd (dH (bl l1)) < L+(c:Int)) →
  mA s M L (ci L deep left (ba l1) false ns) (Ak c L ((left,()),((ba s,bD s l2,false,ns,()),()))):=by
 intro k
 induction k using Nat.strongRecOn with
 | ind k ih =>
  intro c
  induction c with
  | zero =>
   intro l1 l2 M hk hb hs1 hs2 hMs hln L left deep ns hL0 hL1 hd0 hd ho hn hpost
   have hl1:=aA (af hs1 hMs)
   have hbl:=aA (ao l1)
   obtain⟨o1,o2⟩:=ld (bl l1)
   rw[eV]
   simp only[Bool.not_false,if_true]
   rw[tN (by omega),xb o1 o2 (by omega) (fun h=>by rw[df]; exact pZ h),if_pos (by omega)]
   refine .inl ⟨left,bl l1,l2,ns,rfl,rfl,by rw[df,hb],af (ao l1) hs1,hs2,ho,hn,?_⟩
   rw[df]
   omega
  | succ c ihc =>
   intro l1 l2 M hk hb hs1 hs2 hMs hln L left deep ns hL0 hL1 hd0 hd ho hn hpost
   have hl1:=aA (af hs1 hMs)
   have hbl:=aA (ao l1)
   have hs2s:=af hs2 hMs
   obtain⟨o1,o2⟩:=ld (bl l1)
   obtain⟨l',hl',eop⟩:=Ts (s:=s) (l:=l2) (ns:=ns) (L:=L+(c:Int)) (by omega) (by omega) hs2s
   have hCh:Ak (c+1) L ((left,()),((ba s,bD s l2,false,ns,()),()))=(dh (L+(c:Int)) left (ba s) (bD s l2) false ns).bind (Ak c L):=rfl
   rw[hCh,uK]
   simp only[Bool.not_false,if_true]
   rw[eop,←hb]
   by_cases hop:dH (bl l1)≠0∧cd (dH (bl l1))=L+(c:Int)
   ·rw[if_pos hop]
    have h0 : ¬(dH (bl l1) == 0)=true:=by simpa using hop.1
    unfold yi
    simp only[Option.bind_some]
    rw[if_neg h0,←hb,wr (by omega) (by omega)]
    have hlt:=Kf hop.1
    have hX:(bl l1).drop (c7 (dH (bl l1))).length <:+ M:=af (fx _ _) (af (ao l1) hs1)
    have hXM:=aA hX
    have hXl:((bl l1).drop (c7 (dH (bl l1))).length).length < (bl l1).length:=by
     have:=Kf (l:=bl l1) (by rw[df]; exact hop.1)
     rw[df] at this
     exact this
    have hbX:=aA (ao ((bl l1).drop (c7 (dH (bl l1))).length))
    rw[eV]
    simp only[Bool.not_false,if_true]
    rw[tN (by omega),xb o1 o2 (by omega) (fun h=>by rw[df]; exact pZ h),if_neg (by omega),df,hop.2,Option.bind_assoc]
    have hMl:(bl l1).length≤M.length:=aA (af (ao l1) hs1)
    refine p7 (HB _ _ rfl (af hX hMs) (af hX hMs) (by omega) (L+(c:Int)+1) deep ns (by omega) (by omega) hd0 (by omega) ho hn) ?_ ?_
    ·intro i x1 x2 ns' e1 e2 e3 e4 e5 e6
     have hx1:x1 <:+ M:=af e2 (af (ao _) hX)
     have hx2:x2 <:+ M:=af e3 (af (ao _) hX)
     have hxl:=aA e2
     have hbx:=aA (ao x1)
     have hxM:=aA hx1
     have hMsl:=aA hMs
     simp only
     rw[Option.bind_assoc]
     refine Re (x:=nB (dH (bl l1)) left i) rfl e4 e5 ?_ ?_
     ·intro a1 a2
      exact ih _ (by omega) (c+1) x1 x2 M rfl e1 hx1 hx2 hMs (by omega) L _ deep _ hL0 hL1 hd0 (by omega) a1 a2 (by omega)
     ·intro i2 b1 ns1 a1 a2
      simp only
      rw[F8]
      simp only[Option.bind_some]
      rw[Bv]
      refine iA (yl _ x1 rfl (fun l' _ deep least b ns d0 d1 hn=>Bt l' deep least b ns d0 d1 hn) L deep i2 b1 ns1 hd0 (by omega) a2) a1 hx1 rfl (af hx2 hMs) ?_
      rw[List.length_append,List.length_singleton]
      omega
    ·intro i x1 b1 ns1 j x2 ns2 e1 e2 e3 e4 e5
     have hx1:x1 <:+ M:=af e2 (af (ao _) hX)
     have hxM:=aA hx1
     have hMsl:=aA hMs
     simp only
     rw[Kh (x:=nB (dH (bl l1)) left j) (ns:=ns2) (by omega) PF]
     simp only[Option.bind_some]
     rw[F8]
     simp only[Option.bind_some]
     rw[Bv]
     obtain⟨i3,l3,b3,ns3,h3,j1,j2,j3⟩:=(eK (x:=nB (dH (bl l1)) left i) (l:=x1) (b:=b1) e3).dm e1
     rw[h3]
     simp only[Option.bind_some]
     have hs3:=aA j1
     refine iA (yl _ l3 rfl (fun l' _ deep least b ns d0 d1 hn=>Bt l' deep least b ns d0 d1 hn) L deep i3 b3 ns3 hd0 (by omega) j3) j2 (af j1 hx1) rfl e4 ?_
     rw[List.length_append,List.length_singleton]
     omega
   ·rw[if_neg hop]
    unfold yi
    simp only[Option.bind_some]
    rw[if_pos (by rfl)]
    simp only[Option.bind_some]
    have hb':bl l1=bl l':=by
     rcases hl' with rfl | rfl
     ·exact hb
     ·rw[df,hb]
    have hs':l' <:+ M:=by
     rcases hl' with rfl | rfl
     ·exact hs2
     ·exact af (ao l2) hs2
    exact ihc l1 l' M hk hb' hs1 hs' hMs hln L left deep ns hL0 (by omega) hd0 hd ho hn (by omega)
theorem PH {s:ae} (hs:s.length≤200) : ∀ n,PE s n
 | 0=>fun l l0 _ _ _ h=>by omega
 | n+1=>by
  have HB:=PH hs n
  intro l l0 hb hs1 hs2 hln L deep ns hL0 hL1 hd0 hd ho hn
  have hms:bl l <:+ s:=af (ao l) hs1
  have hm:=aA hms
  rw[ma,ET (5 - L).toNat L (by omega) hL0,RR]
  refine p7 (PG hs HB _ l l0 rfl hb hs1 hs2 (by omega) deep ns hd0 hd ho hn) ?_ ?_
  ·intro i x1 x2 ns' e1 e2 e3 e4 e5 _
   have hbx:=aA (ao x1)
   have hx:=aA e2
   exact Rf hs HB _ (5 - L).toNat x1 x2 (bl l) rfl e1 e2 e3 hms (by omega) L i deep ns' hL0 (by omega) hd0 (by omega) e4 e5 (.inr (by have:=NG (dH (bl x1)); omega))
  ·intro i x1 b1 ns1 j x2 ns2 e1 e2 e3 e4 e5
   have hx:=aA e2
   rw[Bv]
   exact iA (yl _ x1 rfl (fun l' _ deep least b ns d0 d1 hn=>Bt l' deep least b ns d0 d1 hn) L deep i b1 ns1 hd0 (by omega) e3) e1 e2 rfl e4 e5
theorem F9 {ns:List aa} (h:sm ns=true) : ∀ x∈ns,x.2.2.1.2.2.1.size≤9223372036854775807:=by
 unfold sm at h
 rw[List.all_eq_true] at h
 exact fun x hx=>Kg (h x hx)
theorem Ga {ns:List aa} (h:sm ns=true) : ∀ x∈ns,x.2.2.2.2.2.1.length≤10000000:=by
 unfold sm at h
 rw[List.all_eq_true] at h
 intro x hx
 have:=h x hx
 unfold uU at this
 rw[Bool.and_eq_true,decide_eq_true_eq,decide_eq_true_eq] at this
 omega
theorem Tt (s:ae):bD s s=0:=by
 unfold bD
 omega
theorem Iq {x:ByteArray} (hx:x.size≤9223372036854775807) : ∃(f:List aa) (b:Bool),kO x=some ((f,b,()),())∧iW x=some ((f,b,()),())∧(b=true→fh f=true)∧(b=false→f=[]):=by
 obtain⟨s,rfl⟩ : ∃ s,x=ba s:=⟨lb x,(fX x).symm⟩
 rw[Eg,uI,qx hx,sd hx]
 simp only[Option.bind_some]
 cases hp:(plain (ba s) && decide (((ba s).size:Int)≤200)) with
 | false=>exact⟨[],false,rfl,rfl,(fun h=>by cases h),fun _=>rfl⟩
 | true =>
  rw[Bool.and_eq_true,decide_eq_true_eq,aq] at hp
  have hs:s.length≤200:=by omega
  have hbl:=aA (ao s)
  have h:=PH hs (s.length+1) s s rfl (ne s) (ne s) (by omega) 1 0 [] (by decide) (by decide) (by decide) (by omega) rfl (by simp)
  rw[Tt] at h
  simp only[Bool.not_true,Bool.false_eq_true,if_false]
  rcases h with⟨i,l1,l2,ns,e1,e2,h1,h2,h3,h4,h5,h6⟩ | ⟨i,l1,b1,ns1,j,l2,ns2,e1,h1,h2,h3,e2,h4,h5⟩
  ·rw[e1,e2]
   simp only[Option.bind_some]
   rw[J6 (by omega) (af h3 (ao s)),lX]
   simp only[Option.bind_some,Bool.false_eq_true,if_false]
   have e0:(ByteArray.toList (ba (bl l1)) == ByteArray.toList (⟨#[]⟩:ByteArray))=decide (bl l1=[]):=cN (b:=[])
   rw[e0,←h1,aq,jP (by omega) (F9 (tP h4)) (Ga (tP h4)),mU (by omega) (F9 (tP h4)) (Ga (tP h4))]
   simp only[Option.bind_some]
   by_cases hr:bl l1=[]
   ·rw[av (by rw[hr]; unfold bD; simp),hr]
    simp only[decide_true,Bool.not_true,Bool.false_eq_true,if_false]
    cases hk:fh ns with
    | true=>exact⟨ns,true,rfl,rfl,fun _=>hk,fun h=>by cases h⟩
    | false=>exact⟨[],false,rfl,rfl,(fun h=>by cases h),fun _=>rfl⟩
   ·have hlen:=List.length_pos_iff.2 hr
    have hls:=aA (af (af (ao l1) h2) (ao s))
    rw[aD (by unfold bD; omega)]
    simp only[hr,decide_false,Bool.not_false,if_true]
    exact⟨[],false,rfl,rfl,(fun h=>by cases h),fun _=>rfl⟩
  ·rw[e1,e2]
   simp only[Option.bind_some]
   rw[J6 (by omega) h4,lX]
   simp only[Option.bind_some,if_true]
   refine⟨[],false,rfl,?_,(fun h=>by cases h),fun _=>rfl⟩
   cases b1 with
   | true=>rfl
   | false =>
    have hbad:dl ns1=false:=h1.1.elim (fun h=>by cases h) id
    simp only[Bool.false_eq_true,if_false]
    split
    ·rfl
    ·rw[jP (by omega) (F9 h1.2) (Ga h1.2)]
     simp only[Option.bind_some]
     cases hk:fh ns1 with
     | false=>rfl
     | true =>
      exfalso
      have:dl ns1=true:=by
       unfold dl
       rw[List.all_eq_true]
       intro y hy
       obtain⟨i,hi⟩:=List.getElem?_of_mem hy
       exact(lV hk i y hi).1
      rw[this] at hbad
      cases hbad
end Go.Proofs.YtddiiceaindlhaaGreatDoor.Abs
set_option linter.unusedVariables false
set_option linter.unusedSimpArgs false
set_option linter.unusedSectionVars false
namespace Go.Proofs.YtddiiceaindlhaaGreatDoor.Abs
open Go
def qT:ae→ae
 | []=>[]
 | c :: l=>if c=34 then 34 :: 34 :: qT l else c :: qT l
theorem PI : ∀ l:ae,(qT l).length≤2*l.length
 | []=>by simp[qT]
 | c :: l=>by
  have:=PI l
  unfold qT
  split <;> simp only[List.length_cons] <;> omega
theorem Kj (l:ae) : ∀ pre:ae,(34:UInt8) ∉ pre→qT (pre++l)=pre++qT l
 | [],_=>rfl
 | c :: pre,h=>by
  simp only[List.mem_cons,not_or] at h
  rw[List.cons_append,qT,if_neg (fun e=>h.1 e.symm),Kj l pre h.2]
  rfl
theorem NJ : ∀(n:Nat) (l:ae),l.length=n→Lib.replaceK [34] [34,34] (l.count 34) l=qT l:=by
 intro n
 induction n using Nat.strongRecOn with
 | ind n ih =>
  intro l hn
  by_cases hm:(34:UInt8)∈l
  ·obtain⟨pre,t,rfl,h2⟩:=C3 34 l hm
   have hc:(pre++34 :: t).count 34=t.count 34+1:=by
    rw[List.count_append,List.count_eq_zero.2 h2,List.count_cons_self]
    omega
   have hi:Lib.index (pre++34 :: t) [34]=(pre.length:Nat):=by rw[Lib.index_one,F5 34 t pre h2]
   rw[hc,Lib.replaceK_hit _ _ _ _ _ hi,List.take_left' rfl,Kj _ pre h2]
   have hd:(pre++34 :: t).drop (pre.length+([34]:ae).length)=t:=by
    have:pre++34 :: t=(pre++[34])++t:=by simp
    rw[this,List.drop_left' (by simp)]
   rw[hd,ih t.length (by rw[←hn]; simp; omega) t rfl]
   simp[qT]
  ·rw[List.count_eq_zero.2 hm]
   have:=Kj [] l hm
   rw[List.append_nil] at this
   rw[this]
   simp[qT,Lib.replaceK]
theorem Ls {l:ae} (hl:l.length≤1000000):strings_ReplaceAll (ba l) (⟨#[34]⟩:ByteArray) (⟨#[34,34]⟩:ByteArray)=some ((ba (qT l),()),()):=by
 rw[wF]
 have hcount:Lib.countB (ba l) (ba [34])=l.count 34:=by
  show Lib.count (lb (ba l)) (lb (ba [34]))=_
  rw[dk,dk,Lib.count_one]
 have hle:l.count 34≤l.length:=List.count_le_length
 show(if(ba l).size < 4294967281∧1≤(ba [34]).size∧(ba l).size+Lib.countB (ba l) (ba [34])*(ba [34,34]).size≤140737488355328 then some (((⟨(Lib.replaceAll (lb (ba l)) (lb (ba [34])) (lb (ba [34,34]))).toArray⟩:ByteArray),()),()) else none)=_
 rw[if_pos ⟨by rw[aq]; omega,by decide,by rw[hcount,aq,aq]; simp only[List.length_cons,List.length_nil]; omega⟩,dk,dk,dk]
 congr 3
 show ba (Lib.replaceAll l [34] [34,34])=_
 unfold Lib.replaceAll Lib.replace Lib.replaceNum
 rw[if_neg (by decide),if_pos (.inl (by decide)),Lib.count_one,NJ _ l rfl]
theorem vD {s:ae} (hs:s.length≤1000000) : ∀(l acc:ae),l <:+ s→acc.length+2*l.length≤4000000→mq (ba s) (ba acc) (bD s l)=some ((ba (acc++qT l++[34]),()),())
 | [],acc,h,ha=>by
  rw[wM,av (by rw[aq]; unfold bD; simp),show(⟨#[34]⟩:ByteArray)=ba [34] from rfl,bk (by simp only[List.length_singleton]; simp at ha; omega)]
  simp[qT]
 | c :: l,acc,h,ha=>by
  obtain⟨pre,h1,h2⟩:=nd h
  have hl:pre.length+l.length+1=s.length:=by rw[h1]; simp; omega
  rw[List.length_cons] at ha
  have h':l <:+ s:=af ⟨[c],rfl⟩ h
  have e1:(pre.length:Int)+1=bD s l:=by
   unfold bD
   omega
  have e3:(s.take (pre.length+1)).drop pre.length=[c]:=by
   rw[h1,List.take_append,List.drop_append]
   simp
  rw[wM,h2,aD (by rw[aq]; omega),jQ h1,CZ c 34 (n:=34) rfl,wr (by omega) (by omega),show(pre.length:Int)+1=((pre.length+1:Nat):Int) by omega,wW (by omega) (by omega),e3]
  by_cases hc:c=34
  ·subst hc
   rw[aD rfl,show(⟨#[34]⟩:ByteArray)=ba [34] from rfl,bk (by simp only[List.length_singleton]; omega),wW (by omega) (by omega),e3,bk (by simp only[List.length_append,List.length_singleton]; omega),show((pre.length+1:Nat):Int)=bD s l by omega,vD hs l _ h' (by simp only[List.length_append,List.length_singleton]; omega)]
   simp[qT]
  ·rw[av hc,bk (by simp only[List.length_singleton]; omega),show((pre.length+1:Nat):Int)=bD s l by omega,vD hs l _ h' (by simp only[List.length_append,List.length_singleton]; omega)]
   simp[qT,hc]
theorem PJ {l:ae} (hl:l.length≤1000000):CK (ba l)=some ((ba (34 :: (qT l++[34])),()),()):=by
 rw[K1,show(⟨#[34]⟩:ByteArray)=ba [34] from rfl]
 have:=vD hl l [34] (ne l) (by simp only[List.length_singleton]; omega)
 rw[Tt] at this
 rw[this]
 simp
def bU:List ae→ae
 | []=>[]
 | [x]=>x
 | x :: y :: l=>x++44 :: bU (y :: l)
def bz (f:List aa):Nat→Int→Int→ae
 | 0,_,_=>[]
 | n+1,k,L =>
  let x:=eW f k
  if x.1=1 then(if x.2.2.1.1=2 then 34 :: (qT (lb x.2.2.1.2.2.1)++[34]) else lb (cE x.2.2.1))
  else if x.1=2 then eO x.2.2.2.1
  else if x.1=3 then eO x.2.2.2.1++58 :: eO x.2.2.2.2.1
  else if x.1=4 then 45 :: bz f n (x.2.2.2.2.2.1.getD 0 0) 5
  else if x.1=5 then
   let b:=bz f n (x.2.2.2.2.2.1.getD 0 0) (cd x.2.1)++(c7 x.2.1++bz f n (x.2.2.2.2.2.1.getD 1 0) (cd x.2.1+1))
   if cd x.2.1 < L then 40 :: (b++[41]) else b
  else dj x.2.1++40 :: (bU (x.2.2.2.2.2.1.map fun k=>bz f n k 1)++[41])
end Go.Proofs.YtddiiceaindlhaaGreatDoor.Abs
set_option linter.unusedVariables false
set_option linter.unusedSimpArgs false
set_option linter.unusedSectionVars false
namespace Go.Proofs.YtddiiceaindlhaaGreatDoor.Abs
open Go
theorem Cm : ∀ l:List ae,bU l=Lib.join l [44]
 | []=>rfl
 | [x]=>by rw[Lib.join_one]; rfl
 | x :: y :: l=>by
  rw[bU,Cm (y :: l),Lib.join_cons,Lib.join_cons]
  simp[Lib.joinTail]
theorem Cn (x:ae) : ∀(l:List ae),l≠[]→bU (l++[x])=bU l++44 :: x
 | [y],_=>rfl
 | y :: z :: l,_=>by
  show y++44 :: bU (z :: l++[x])=(y++44 :: bU (z :: l))++44 :: x
  rw[Cn x (z :: l) (by simp)]
  simp
theorem EU : ∀ l:List ae,(bU l).length≤(l.map List.length).sum+l.length
 | []=>by simp[bU]
 | [x]=>by simp[bU]
 | x :: y :: l=>by
  have:=EU (y :: l)
  simp only[bU,List.length_append,List.length_cons,List.map_cons,List.sum_cons] at this ⊢
  omega
theorem Rg {xs:List ae} (h1:xs.length≤1000) (h2:(bU xs).length≤10000000):strings_Join (xs.map fun x=>ba x) (⟨#[44]⟩:ByteArray)=some ((ba (bU xs),()),()):=by
 rw[Eo]
 have e:(xs.map fun x=>ba x).map (·.data.toList)=xs:=by
  rw[List.map_map]
  conv=>rhs; rw[←List.map_id xs]
  apply List.map_congr_left
  intro x _
  exact dk x
 show(if(xs.map fun x=>ba x).length≤140737488355328∧(Lib.join ((xs.map fun x=>ba x).map (·.data.toList)) (lb (ba [44]))).length≤140737488355328 then some (((⟨(Lib.join ((xs.map fun x=>ba x).map (·.data.toList)) (lb (ba [44]))).toArray⟩:ByteArray),()),()) else none)=_
 rw[e,dk,←Cm,if_pos ⟨by rw[List.length_map]; omega,by omega⟩]
theorem Gb {p:aB} (h:ar p.1=true):(eO p).length≤6:=by
 obtain⟨c,r,fc,fr,rfl,h1,h2,h3,h4⟩:=uR h
 have k1:=pX c
 have k2:=si h4
 show(rB c r fc fr).length≤6
 unfold rB o8
 simp only[List.length_append]
 cases fc <;> cases fr <;> simp <;> omega
theorem Mg (k:Int):(dj k).length≤5:=by
 unfold dj
 by_cases hi:k.toNat < 11
 ·have h : ∀ j:Fin 11,(([[],[83,85,77],[77,73,78],[77,65,88],[67,79,85,78,84],[73,70],[65,78,68],[79,82],[78,79,84],[65,66,83],[76,69,78]]:List ae).getD j.val []).length≤5:=by decide
  exact h ⟨k.toNat,hi⟩
 ·rw[List.getD_eq_getElem?_getD,List.getElem?_eq_none (by simp; omega)]
  simp
theorem Kk {c:Int→Option (Int×Nat)} {f:List aa} {call:Bool} : ∀(l:List Int) (cur:Int) (h:Nat) (s:Int) (h':Nat),dQ c f call l cur h=some (s,h') →
  (∀ kid∈l,∃ p,c kid=some p) ∧ ∀ g:Int→Nat,(∀ kid s' h'',c kid=some (s',h'')→(g kid:Int)≤1000*(kid - s'+1))→(((l.map g).sum:Nat):Int)≤1000*(cur - s)
 | [],cur,h,s,h',e=>by
  simp only[dQ,Option.some.injEq,Prod.mk.injEq] at e
  obtain⟨rfl,_⟩:=e
  exact⟨fun _ h=>by simp at h,fun g _=>by simp⟩
 | kid :: l,cur,h,s,h',e=>by
  simp only[dQ] at e
  split at e
  ·rename_i hk
   rw[Option.bind_eq_some_iff] at e
   obtain⟨p,hp,e⟩:=e
   obtain⟨k1,k2⟩:=Kk l p.1 _ s h' e
   refine⟨fun kid' hm => ?_,fun g hg => ?_⟩
   ·rcases List.mem_cons.1 hm with rfl | hm
    ·exact⟨p,hp⟩
    ·exact k1 kid' hm
   ·have h1:=k2 g hg
    have h2:=hg kid p.1 p.2 hp
    have:=hk.1
    simp only[List.map_cons,List.sum_cons]
    omega
  ·cases e
section
variable {f:List aa}
theorem EV (n:Nat) (k:Int):bz f n k 0=bz f n k 1:=by
 cases n with
 | zero=>rfl
 | succ n =>
  have hlv : ∀ j,¬cd j < 0 ∧ ¬cd j < 1:=by
   intro j
   unfold cd
   constructor <;> (repeat' split) <;> omega
  unfold bz
  simp only[(hlv _).1,(hlv _).2,if_false]
def NL (f:List aa) (n:Nat) (k:Int):Prop := ∀ L:Int,fH f k L=some ((ba (bz f n k L),()),())∧lD f k L=some ((ba (bz f n k L),()),())
theorem EW {n:Nat} {kids:List Int} {a op:Int} {v:ay} {A B:aB} {kids':List Int} (hop:0≤op∧op≤10) (hl:kids.length≤10) (hk : ∀ k∈kids,NL f n k) (hlen:(bU (kids.map fun k=>bz f n k 1)).length≤1000000) : ∀(ys pre:List Int),kids=pre++ys →
  jv f kids (kids.length:Int) (pre.length:Int) a op v A B kids' ((pre.map fun k=>bz f n k 1).map fun x=>ba x)=some ((ba (dj op++40 :: (bU (kids.map fun k=>bz f n k 1)++[41])),()),())
 | [],pre,h=>by
  rw[List.append_nil] at h
  subst h
  have hf:=Mg op
  rw[po,av (Int.lt_irrefl _),EQ hop.1 hop.2]
  simp only[Option.bind_some]
  rw[show(⟨#[40]⟩:ByteArray)=ba [40] from rfl,bk (by simp only[List.length_singleton]; omega),Rg (by rw[List.length_map]; omega) (by omega)]
  simp only[Option.bind_some]
  rw[bk (by simp only[List.length_append,List.length_singleton]; omega),show(⟨#[41]⟩:ByteArray)=ba [41] from rfl,bk (by simp only[List.length_append,List.length_singleton]; omega)]
  simp
 | y :: ys,pre,h=>by
  rw[po,aD (bP h),bv h,(hk y (by rw[h]; simp) 1).1]
  simp only[Option.bind_some]
  have hpl:pre.length≤10:=by
   have:=congrArg List.length h
   simp at this
   omega
  rw[bo (by simp only[List.length_map,List.length_singleton]; omega),aX h (by omega)]
  have:=EW (a:=a) (v:=v) (A:=A) (B:=B) (kids':=kids') hop hl hk hlen ys (pre++[y]) (aK h)
  rw[List.map_append,List.map_append] at this
  exact this
theorem EX {n:Nat} {kids:List Int} {a op:Int} {v:ay} {A B:aB} (hl:kids.length≤10) (hk : ∀ k∈kids,NL f n k) (hlen : ∀ pre ys:List Int,kids=pre++ys→(bU (pre.map fun k=>bz f n k 1)).length≤1000000) (hop:(dj op).length≤5) : ∀(ys pre:List Int),kids=pre++ys →
  mr f (ba (dj op++40 :: bU (pre.map fun k=>bz f n k 1))) (pre.length:Int) a op v A B kids=some ((ba (dj op++40 :: (bU (kids.map fun k=>bz f n k 1)++[41])),()),())
 | [],pre,h=>by
  have h0:=hlen pre [] h
  rw[List.append_nil] at h
  subst h
  rw[wN,av (Int.lt_irrefl _),show(⟨#[41]⟩:ByteArray)=ba [41] from rfl,bk (by simp only[List.length_append,List.length_cons,List.length_nil]; omega)]
  simp
 | y :: ys,pre,h=>by
  have h0:=hlen pre (y :: ys) h
  have h1:=hlen (pre++[y]) ys (aK h)
  have hpl:pre.length≤10:=by
   have:=congrArg List.length h
   simp at this
   omega
  have ih:=EX (a:=a) (v:=v) (A:=A) (B:=B) hl hk hlen hop ys (pre++[y]) (aK h)
  rw[List.map_append,List.map_singleton] at ih h1
  rw[wN,aD (bP h)]
  by_cases hp:pre=[]
  ·subst hp
   simp only[List.nil_append,List.map_nil,bU] at ih h1 ⊢
   rw[av (by simp),bv (pre:=[]) h,(hk y (by rw[h]; simp) 0).2,EV]
   simp only[Option.bind_some]
   rw[bk (by simp only[List.length_append,List.length_cons,List.length_nil]; omega),aX (pre:=[]) h (by omega)]
   have e:dj op++[40]++bz f n y 1=dj op++40 :: bz f n y 1:=by simp
   rw[e]
   exact ih
  ·have hpos:=List.length_pos_iff.2 hp
   rw[Cn _ _ (by simpa using hp)] at ih h1
   simp only[List.length_append,List.length_cons] at h1
   rw[aD (by omega),show(⟨#[44]⟩:ByteArray)=ba [44] from rfl,bk (by simp only[List.length_append,List.length_cons,List.length_nil]; omega),bv h,(hk y (by rw[h]; simp) 0).2,EV]
   simp only[Option.bind_some]
   rw[bk (by simp only[List.length_append,List.length_cons,List.length_nil]; omega),aX h (by omega)]
   have e:dj op++40 :: bU (pre.map fun k=>bz f n k 1)++[44]++bz f n y 1=dj op++40 :: (bU (pre.map fun k=>bz f n k 1)++44 :: bz f n y 1):=by simp
   rw[e]
   exact ih
end
end Go.Proofs.YtddiiceaindlhaaGreatDoor.Abs
set_option linter.unusedVariables false
set_option linter.unusedSimpArgs false
set_option linter.unusedSectionVars false
namespace Go.Proofs.YtddiiceaindlhaaGreatDoor.Abs
open Go
section
variable {f:List aa}
theorem Tu {l:List Int} (h:l.length=2) : ∃ a b,l=[a,b]:=by
 match l,h with
 | [a,b],_=>exact⟨a,b,rfl⟩
theorem Gc (hf:f.length≤60) : ∀(n:Nat) (k s:Int) (h:Nat),cQ f n k=some (s,h)→NL f n k ∧ ∀ L:Int,((bz f n k L).length:Int)≤1000*(k - s+1)
 | 0,k,s,h,e=>by simp[cQ] at e
 | n+1,k,s,h,e=>by
  have hall:=fd f (n+1) k s h e
  obtain⟨hs0,hsk,_⟩:=hall
  have IH:=Gc hf n
  simp only[cQ] at e
  split at e
  ·rename_i h0
   split at e
   ·cases e
   ·rename_i x hx
    split at e
    ·rename_i hok
     obtain⟨q1,q2⟩:=Kk _ _ _ _ _ e
     have hkl:k < 60:=by
      have:=(List.getElem?_eq_some_iff.1 hx).1
      omega
     have hK : ∀ kid∈x.2.2.2.2.2.1,NL f n kid ∧ ∃ s' h',cQ f n kid=some (s',h'):=by
      intro kid hm
      obtain⟨p,hp⟩:=q1 kid (List.mem_reverse.2 hm)
      exact⟨(IH kid p.1 p.2 hp).1,p.1,p.2,hp⟩
     have hnode:eW f k=x:=by
      unfold eW
      rw[List.getD_eq_getElem?_getD,hx]
      rfl
     have hfx : ∀ L,bz f (n+1) k L=(if x.1=1 then(if x.2.2.1.1=2 then 34 :: (qT (lb x.2.2.1.2.2.1)++[34]) else lb (cE x.2.2.1))
      else if x.1=2 then eO x.2.2.2.1
      else if x.1=3 then eO x.2.2.2.1++58 :: eO x.2.2.2.2.1
      else if x.1=4 then 45 :: bz f n (x.2.2.2.2.2.1.getD 0 0) 5
      else if x.1=5 then(if cd x.2.1 < L then 40 :: ((bz f n (x.2.2.2.2.2.1.getD 0 0) (cd x.2.1)++(c7 x.2.1++bz f n (x.2.2.2.2.2.1.getD 1 0) (cd x.2.1+1)))++[41]) else(bz f n (x.2.2.2.2.2.1.getD 0 0) (cd x.2.1)++(c7 x.2.1++bz f n (x.2.2.2.2.2.1.getD 1 0) (cd x.2.1+1))))
      else dj x.2.1++40 :: (bU (x.2.2.2.2.2.1.map fun k=>bz f n k 1)++[41])):=by
      intro L
      conv=>lhs; unfold bz
      rw[hnode]
     have hI : ∀ L,fH f k L=_:=fun L=>(En (x0:=f) (x1:=k) (x2:=L)).trans (dY h0 hx)
     have hS : ∀ L,lD f k L=_:=fun L=>(M6 (x0:=f) (x1:=k) (x2:=L)).trans (dY h0 hx)
     unfold bG kl at hok
     by_cases c1:x.1=1
     ·rw[if_pos c1] at hok
      simp only[Bool.and_eq_true,decide_eq_true_eq] at hok
      have hv:=hok.1.1.2
      have hsz:=il hv
      have b1:(x.1 == 1)=true:=by rw[c1]; rfl
      by_cases c2:x.2.2.1.1=2
      ·have b2:(x.2.2.1.1 == 2)=true:=by rw[c2]; rfl
       have hlb:(lb x.2.2.1.2.2.1).length≤200:=by rw[pU]; exact hsz
       have hq:=PI (lb x.2.2.1.2.2.1)
       have ea : ∀ L,bz f (n+1) k L=34 :: (qT (lb x.2.2.1.2.2.1)++[34]):=fun L=>by rw[hfx,if_pos c1,if_pos c2]
       refine⟨fun L=>⟨?_,?_⟩,fun L => ?_⟩
       ·rw[hI,if_pos b1,if_pos b2,←fX x.2.2.1.2.2.1,Ls (by omega)]
        simp only[Option.bind_some]
        rw[show(⟨#[34]⟩:ByteArray)=ba [34] from rfl,bk (by simp only[List.length_singleton]; omega),bk (by simp only[List.length_append,List.length_singleton]; omega),ea]
        simp
       ·rw[hS,if_pos b1,if_pos b2,←fX x.2.2.1.2.2.1,PJ (by omega)]
        simp only[Option.bind_some]
        rw[ea]
       ·rw[ea]
        simp only[List.length_cons,List.length_append,List.length_nil]
        omega
      ·have b2 : ¬(x.2.2.1.1 == 2)=true:=by simpa using c2
       have hvs:=Pm hv
       have ea : ∀ L,bz f (n+1) k L=lb (cE x.2.2.1):=fun L=>by rw[hfx,if_pos c1,if_neg c2]
       refine⟨fun L=>⟨?_,?_⟩,fun L => ?_⟩
       ·rw[hI,if_pos b1,if_neg b2,yR hv,ea,fX]
        rfl
       ·rw[hS,if_pos b1,if_neg b2,gf (je hv),if_pos hv,ea,fX]
        rfl
       ·rw[ea,pU]
        omega
     rw[if_neg c1] at hok
     have b1 : ¬(x.1 == 1)=true:=by simpa using c1
     by_cases c2:x.1=2
     ·rw[if_pos c2] at hok
      simp only[Bool.and_eq_true,decide_eq_true_eq] at hok
      have b2:(x.1 == 2)=true:=by rw[c2]; rfl
      have hr:=hok.2
      have hp:=Gb hr
      have ea : ∀ L,bz f (n+1) k L=eO x.2.2.2.1:=fun L=>by rw[hfx,if_neg c1,if_pos c2]
      refine⟨fun L=>⟨?_,?_⟩,fun L => ?_⟩
      ·rw[hI,if_neg b1,if_pos b2,mV,if_pos hr,ea]
       rfl
      ·rw[hS,if_neg b1,if_pos b2,rl,if_pos hr,ea]
       rfl
      ·rw[ea]
       omega
     rw[if_neg c2] at hok
     have b2 : ¬(x.1 == 2)=true:=by simpa using c2
     by_cases c3:x.1=3
     ·rw[if_pos c3] at hok
      simp only[Bool.and_eq_true,decide_eq_true_eq] at hok
      have b3:(x.1 == 3)=true:=by rw[c3]; rfl
      have ha:=hok.2
      unfold cc at ha
      simp only[Bool.and_eq_true,decide_eq_true_eq] at ha
      have hr1:=ha.1.1.1
      have hr2:=ha.1.1.2
      have hp1:=Gb hr1
      have hp2:=Gb hr2
      have ea : ∀ L,bz f (n+1) k L=eO x.2.2.2.1++58 :: eO x.2.2.2.2.1:=fun L=>by rw[hfx,if_neg c1,if_neg c2,if_pos c3]
      refine⟨fun L=>⟨?_,?_⟩,fun L => ?_⟩
      ·rw[hI,if_neg b1,if_neg b2,if_pos b3,mV,if_pos hr1]
       simp only[Option.bind_some]
       rw[show(⟨#[58]⟩:ByteArray)=ba [58] from rfl,bk (by simp only[List.length_singleton]; omega),mV,if_pos hr2]
       simp only[Option.bind_some]
       rw[bk (by simp only[List.length_append,List.length_singleton]; omega),ea]
       simp
      ·rw[hS,if_neg b1,if_neg b2,if_pos b3,rl,if_pos hr1]
       simp only[Option.bind_some]
       rw[show(⟨#[58]⟩:ByteArray)=ba [58] from rfl,bk (by simp only[List.length_singleton]; omega),rl,if_pos hr2]
       simp only[Option.bind_some]
       rw[bk (by simp only[List.length_append,List.length_singleton]; omega),ea]
       simp
      ·rw[ea]
       simp only[List.length_append,List.length_cons]
       omega
     rw[if_neg c3] at hok
     have b3 : ¬(x.1 == 3)=true:=by simpa using c3
     by_cases c4:x.1=4
     ·rw[if_pos c4] at hok
      simp only[Bool.and_eq_true,decide_eq_true_eq] at hok
      have b4:(x.1 == 4)=true:=by rw[c4]; rfl
      obtain⟨a,hkids⟩ : ∃ a,x.2.2.2.2.2.1=[a]:=List.length_eq_one_iff.1 (by omega)
      obtain⟨hka,sa,ha,hca⟩:=hK a (by rw[hkids]; simp)
      rw[hkids] at e q2 hI hS hfx
      have hla:=fun L=>(IH a sa ha hca).2 L
      simp only[List.reverse_singleton,dQ] at e
      split at e
      ·rename_i hc
       rw[hca] at e
       simp only[Option.bind_some,Option.some.injEq,Prod.mk.injEq] at e
       obtain⟨rfl,_⟩:=e
       have ea : ∀ L,bz f (n+1) k L=45 :: bz f n a 5:=fun L=>by rw[hfx,if_neg c1,if_neg c2,if_neg c3,if_pos c4]; rfl
       have h5:=hla 5
       refine⟨fun L=>⟨?_,?_⟩,fun L => ?_⟩
       ·rw[hI,if_neg b1,if_neg b2,if_neg b3,if_pos b4,dY (y:=a) (by decide) rfl,(hka 5).1]
        simp only[Option.bind_some]
        rw[show(⟨#[45]⟩:ByteArray)=ba [45] from rfl,bk (by simp only[List.length_singleton]; omega),ea]
        rfl
       ·rw[hS,if_neg b1,if_neg b2,if_neg b3,if_pos b4,dY (y:=a) (by decide) rfl,(hka 5).2]
        simp only[Option.bind_some]
        rw[show(⟨#[45]⟩:ByteArray)=ba [45] from rfl,bk (by simp only[List.length_singleton]; omega),ea]
        rfl
       ·rw[ea]
        simp only[List.length_cons]
        omega
      ·cases e
     rw[if_neg c4] at hok
     have b4 : ¬(x.1 == 4)=true:=by simpa using c4
     by_cases c5:x.1=5
     ·rw[if_pos c5] at hok
      simp only[Bool.and_eq_true,decide_eq_true_eq] at hok
      have b5:(x.1 == 5)=true:=by rw[c5]; rfl
      obtain⟨o1,o2⟩:=bc.1 hok.1.1.1.1
      obtain⟨a,b,hkids⟩ : ∃ a b,x.2.2.2.2.2.1=[a,b]:=Tu (by omega)
      obtain⟨hka,sa,ha,hca⟩:=hK a (by rw[hkids]; simp)
      obtain⟨hkb,sb,hb,hcb⟩:=hK b (by rw[hkids]; simp)
      rw[hkids] at e q2 hI hS hfx
      have hla:=fun L=>(IH a sa ha hca).2 L
      have hlb:=fun L=>(IH b sb hb hcb).2 L
      have hsa:=fd f n a sa ha hca
      have hsb:=fd f n b sb hb hcb
      simp only[List.reverse_cons,List.reverse_nil,List.nil_append,List.cons_append,dQ] at e
      split at e
      ·rename_i hc
       rw[hcb] at e
       simp only[Option.bind_some] at e
       split at e
       ·rename_i hc2
        rw[hca] at e
        simp only[Option.bind_some,Option.some.injEq,Prod.mk.injEq] at e
        obtain⟨rfl,_⟩:=e
        have hlv:1≤cd x.2.1∧cd x.2.1≤4:=by
         unfold cd
         constructor <;> (repeat' split) <;> omega
        have ho:=Bq x.2.1
        have h1:=hla (cd x.2.1)
        have h2:=hlb (cd x.2.1+1)
        have i1:=hsa.2.1
        have i2:=hsb.2.1
        have ea : ∀ L,bz f (n+1) k L=if cd x.2.1 < L then 40 :: ((bz f n a (cd x.2.1)++(c7 x.2.1++bz f n b (cd x.2.1+1)))++[41]) else(bz f n a (cd x.2.1)++(c7 x.2.1++bz f n b (cd x.2.1+1))):=fun L=>by rw[hfx,if_neg c1,if_neg c2,if_neg c3,if_neg c4,if_pos c5]; rfl
        refine⟨fun L=>⟨?_,?_⟩,fun L => ?_⟩
        ·rw[hI,if_neg b1,if_neg b2,if_neg b3,if_neg b4,if_pos b5,Hm o1 o2]
         simp only[Option.bind_some]
         rw[dY (y:=a) (by decide) rfl,(hka _).1]
         simp only[Option.bind_some]
         rw[yf (by omega) o2]
         simp only[Option.bind_some]
         rw[bk (by omega),dY (y:=b) (by decide) rfl,wr (by omega) (by omega),(hkb _).1]
         simp only[Option.bind_some]
         rw[bk (by simp only[List.length_append]; omega),ea]
         by_cases hL:cd x.2.1 < L
         ·rw[aD hL,if_pos hL,show(⟨#[40]⟩:ByteArray)=ba [40] from rfl,bk (by simp only[List.length_append,List.length_singleton]; omega),show(⟨#[41]⟩:ByteArray)=ba [41] from rfl,bk (by simp only[List.length_append,List.length_singleton]; omega)]
          simp
         ·rw[av hL,if_neg hL]
          simp
        ·rw[hS,if_neg b1,if_neg b2,if_neg b3,if_neg b4,if_pos b5,vC]
         simp only[Option.bind_some]
         rw[dY (y:=a) (by decide) rfl,(hka _).2]
         simp only[Option.bind_some]
         rw[yg (by omega) o2]
         simp only[Option.bind_some]
         rw[bk (by omega),dY (y:=b) (by decide) rfl,wr (by omega) (by omega),(hkb _).2]
         simp only[Option.bind_some]
         rw[bk (by simp only[List.length_append]; omega),ea]
         by_cases hL:cd x.2.1 < L
         ·rw[aD hL,if_pos hL,show(⟨#[40]⟩:ByteArray)=ba [40] from rfl,bk (by simp only[List.length_append,List.length_singleton]; omega),show(⟨#[41]⟩:ByteArray)=ba [41] from rfl,bk (by simp only[List.length_append,List.length_singleton]; omega)]
          simp
         ·rw[av hL,if_neg hL]
          simp
        ·rw[ea]
         split <;> simp only[List.length_append,List.length_cons,List.length_nil] <;> omega
       ·cases e
      ·cases e
     rw[if_neg c5] at hok
     have b5 : ¬(x.1 == 5)=true:=by simpa using c5
     by_cases c6:x.1=6
     ·rw[if_pos c6] at hok
      simp only[Bool.and_eq_true,decide_eq_true_eq] at hok
      have hargs:=hok.1.1.1
      have hkn:1≤x.2.2.2.2.2.1.length∧x.2.2.2.2.2.1.length≤10∧0≤x.2.1∧x.2.1≤10:=by
       unfold jO at hargs
       split at hargs
       ·simp only[Bool.or_eq_true,decide_eq_true_eq] at hargs
        omega
       ·split at hargs
        ·rename_i hi
         have:=bc.1 hi
         have:=bc.1 hargs
         omega
        ·split at hargs
         ·rename_i hi
          have:=bc.1 hi
          simp only[decide_eq_true_eq] at hargs
          omega
         ·cases hargs
      have hg:=q2 (fun kid=>(bz f n kid 1).length) (fun kid s' h'' hc=>(IH kid s' h'' hc).2 1)
      rw[List.map_reverse,List.sum_reverse] at hg
      have hfn:=Mg x.2.1
      have hcl : ∀ l:List Int,(bU (l.map fun k=>bz f n k 1)).length≤(l.map fun k=>(bz f n k 1).length).sum+l.length:=by
       intro l
       have:=EU (l.map fun k=>bz f n k 1)
       rw[List.map_map,List.length_map] at this
       exact this
      have hc0:=hcl x.2.2.2.2.2.1
      have ea : ∀ L,bz f (n+1) k L=dj x.2.1++40 :: (bU (x.2.2.2.2.2.1.map fun k=>bz f n k 1)++[41]):=fun L=>by rw[hfx,if_neg c1,if_neg c2,if_neg c3,if_neg c4,if_neg c5]
      refine⟨fun L=>⟨?_,?_⟩,fun L => ?_⟩
      ·rw[hI,if_neg b1,if_neg b2,if_neg b3,if_neg b4,if_neg b5,ea]
       exact EW ⟨hkn.2.2.1,hkn.2.2.2⟩ hkn.2.1 (fun k hk=>(hK k hk).1) (by omega) _ [] rfl
      ·rw[hS,if_neg b1,if_neg b2,if_neg b3,if_neg b4,if_neg b5,Kb hkn.2.2.1 hkn.2.2.2]
       simp only[Option.bind_some]
       rw[show(⟨#[40]⟩:ByteArray)=ba [40] from rfl,bk (by simp only[List.length_singleton]; omega),ea]
       refine EX hkn.2.1 (fun k hk=>(hK k hk).1) (fun pre ys hpy => ?_) hfn _ [] rfl
       have h1:=hcl pre
       have h2:(pre.map fun k=>(bz f n k 1).length).sum≤(x.2.2.2.2.2.1.map fun k=>(bz f n k 1).length).sum:=by
        rw[hpy,List.map_append,List.sum_append]
        omega
       have h3:=congrArg List.length hpy
       rw[List.length_append] at h3
       omega
      ·rw[ea]
       simp only[List.length_append,List.length_cons,List.length_nil]
       omega
     ·rw[if_neg c6] at hok
      cases hok
    ·cases e
  ·cases e
theorem Gd (hl:f.length≤10000000) (hs : ∀ x∈f,x.2.2.1.2.2.1.size≤9223372036854775807) (hk : ∀ x∈f,x.2.2.2.2.2.1.length≤10000000) : ∃ t:ae,oC f=some ((ba t,()),())∧kP f=some ((ba t,()),())∧t.length≤200:=by
 rw[uJ,uH,jP hl hs hk,mU hl hs hk]
 simp only[Option.bind_some]
 cases ho:fh f with
 | false=>exact⟨[],rfl,rfl,by simp⟩
 | true =>
  simp only[Bool.not_true,Bool.false_eq_true,if_false]
  have ho':=ho
  unfold fh at ho'
  rw[Bool.and_eq_true] at ho'
  have hlen:=bc.1 ho'.1
  have ht:=ho'.2
  unfold o5 at ht
  cases hc:cQ f f.length ((f.length:Int) - 1) with
  | none=>rw[hc] at ht; cases ht
  | some p =>
   obtain⟨h1,h2⟩:=Gc (by omega) f.length ((f.length:Int) - 1) p.1 p.2 hc
   rw[wr (by omega) (by omega),(h1 1).1,(h1 0).2,EV]
   simp only[Option.bind_some,aq]
   by_cases hb:(bz f f.length ((f.length:Int) - 1) 1).length > 200
   ·rw[aD (by omega)]
    exact⟨[],rfl,rfl,by simp⟩
   ·rw[av (by omega)]
    exact⟨_,rfl,rfl,by omega⟩
end
end Go.Proofs.YtddiiceaindlhaaGreatDoor.Abs
