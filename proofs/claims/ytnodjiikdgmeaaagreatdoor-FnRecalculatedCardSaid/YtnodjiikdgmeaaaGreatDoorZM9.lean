/- Plain laws: a right formula's text is read as the formula. -/
import Derived.Test.YtnodjiikdgmeaaaGreatDoorZM8
set_option linter.unusedVariables false
set_option linter.unusedSimpArgs false
set_option linter.unusedSectionVars false
namespace Go.Proofs.YtnodjiikdgmeaaaGreatDoor.Abs
open Go
section
variable {f:List aa} {n:Nat} {k L:Int}
theorem DE {v:ab} (h:cm f k=nC v):bM f (n+1) k L=if v.1=2 then 34 :: (qT (lb v.2.2.1)++[34]) else lb (cB v):=by
 conv=>lhs; unfold bM
 rw[h]
 rfl
theorem AI {p:bJ} (h:cm f k=nP p):bM f (n+1) k L=fz p:=by
 conv=>lhs; unfold bM
 rw[h]
 rfl
theorem Fz {p q:bJ} (h:cm f k=nA p q):bM f (n+1) k L=fz p++58 :: fz q:=by
 conv=>lhs; unfold bM
 rw[h]
 rfl
theorem DF {a:Int} (h:cm f k=(4,0,v0,p0,p0,[a],())):bM f (n+1) k L=45 :: bM f n a 5:=by
 conv=>lhs; unfold bM
 rw[h]
 rfl
def xh (f:List aa) (n:Nat) (op a b:Int):ag:=bM f n a (cn op)++(du op++bM f n b (cn op+1))
theorem zk {op a b:Int} (h:cm f k=(5,op,v0,p0,p0,[a,b],())):bM f (n+1) k L=if cn op < L then 40 :: (xh f n op a b++[41]) else xh f n op a b:=by
 conv=>lhs; unfold bM
 rw[h]
 rfl
theorem AJ {op:Int} {ks:List Int} (h:cm f k=(6,op,v0,p0,p0,ks,())):bM f (n+1) k L=dM op++40 :: (cb (ks.map fun k=>bM f n k 1)++[41]):=by
 conv=>lhs; unfold bM
 rw[h]
 rfl
end
theorem Hs {w:ag} (hw:w.all aL=true) (hne:w≠[]):J9 w=true:=by
 cases w with
 | nil=>exact absurd rfl hne
 | cons c t =>
  simp only[List.all_cons,Bool.and_eq_true] at hw
  show Uo c=true
  unfold Uo
  rw[hw.1]
  rfl
theorem K1 {p:bJ} (h:bK p.1=true):fz p≠[]:=by
 obtain⟨_,c,t,e,_⟩:=oK h
 rw[e]
 simp
theorem s8 {p q:bJ} (h:lw (p.1,q.1,())=true):bK p.1=true∧bK q.1=true:=by
 unfold lw at h
 simp only[Bool.and_eq_true] at h
 exact⟨h.1.1.1,h.1.1.2⟩
theorem K2 {f:List aa} : ∀(n:Nat) (k s:Int) (h:Nat),dV f n k=some (s,h) → ∀ L,J9 (bM f n k L)=true
 | 0,k,s,h,e,L=>by cases e
 | n+1,k,s,h,e,L=>by
  obtain⟨h0,x,hx,hn,hok,hfw⟩:=rH e
  cases DA hok with
  | con v hv v0' v1 =>
   rw[DE hn]
   by_cases h2:v.1=2
   ·rw[if_pos h2]
    rfl
   ·rw[if_neg h2]
    rcases DC hv v0' v1 h2 with⟨m,rfl,hm⟩ | ⟨h3,h4,_⟩
    ·have : ∀ m:Fin 6,1≤m.val→J9 (lb (cB (vE (m.val:Int))))=true:=by decide +kernel
     exact this m hm
    ·exact Hs h3 h4
  | cell p hp =>
   rw[AI hn]
   exact Hs (oK hp).1 (K1 hp)
  | area p q hp =>
   rw[Fz hn]
   exact rG (Hs (oK (s8 hp).1).1 (K1 (s8 hp).1)) _
  | neg a =>
   rw[DF hn]
   rfl
  | bin op a b h1 h2 =>
   rw[zk hn]
   split
   ·rfl
   ·obtain⟨⟨h',hc⟩,_⟩:=hfw
    exact rG (K2 n a s h' hc _) _
  | call op ks ha =>
   rw[AJ hn]
   obtain⟨g1,g2,_⟩:=DD ha
   obtain⟨f1,f2,_⟩:=Hr g1 g2
   exact rG (Hs f1 f2) _
theorem Zc {m:ag} (h:m.head? ≠ some 32):bl m=m:=by
 cases m with
 | nil=>rfl
 | cons c t =>
  refine List.dropWhile_cons_of_neg ?_
  unfold Cy
  rw[decide_eq_true_eq]
  exact fun e=>h (by rw[e]; rfl)
theorem Uv {f:List aa} : ∀(n:Nat) (k s:Int) (h:Nat),dV f n k=some (s,h)→fQ f k=false → ∀ L r,Bf r=true→((bM f n k L++r).dropWhile aL).head? ≠ some 58∧((bM f n k L++r).dropWhile aL).head? ≠ some 32
 | 0,k,s,h,e,_,L,r,hr=>by cases e
 | n+1,k,s,h,e,har,L,r,hr=>by
  obtain⟨h0,x,hx,hn,hok,hfw⟩:=rH e
  rw[CF hn] at har
  have hst:=W3 hr
  cases DA hok with
  | con v hv v0' v1 =>
   rw[DE hn]
   by_cases h2:v.1=2
   ·rw[if_pos h2,List.cons_append,List.dropWhile_cons_of_neg (by decide)]
    exact⟨by simp,by simp⟩
   ·rw[if_neg h2]
    rcases DC hv v0' v1 h2 with⟨m,rfl,hm⟩ | ⟨h3,h4,_⟩
    ·have : ∀ m:Fin 6,1≤m.val→lb (cB (vE (m.val:Int)))=35 :: dz (m.val:Int):=by decide +kernel
     rw[this m hm,List.cons_append,List.dropWhile_cons_of_neg (by decide)]
     exact⟨by simp,by simp⟩
    ·rw[(Fx h3 hr).2]
     exact⟨hst.2.1,hst.2.2⟩
  | cell p hp =>
   rw[AI hn,(Fx (oK hp).1 hr).2]
   exact⟨hst.2.1,hst.2.2⟩
  | area p q hp=>simp at har
  | neg a =>
   rw[DF hn,List.cons_append,List.dropWhile_cons_of_neg (by decide)]
   exact⟨by simp,by simp⟩
  | bin op a b h1 h2 =>
   rw[zk hn]
   split
   ·rw[List.cons_append,List.dropWhile_cons_of_neg (by decide)]
    exact⟨by simp,by simp⟩
   ·obtain⟨⟨h',hc⟩,ha,_⟩:=hfw
    unfold xh
    rw[List.append_assoc,List.append_assoc]
    refine Uv n a s h' hc ?_ _ _ (Sf h1 h2 _)
    rw[Bool.eq_false_iff]
    intro hh
    have:=ha hh
    simp at this
  | call op ks ha =>
   rw[AJ hn]
   obtain⟨g1,g2,_⟩:=DD ha
   obtain⟨f1,f2,_⟩:=Hr g1 g2
   rw[List.append_assoc,(xg f1 (r:=40 :: (cb (ks.map fun k=>bM f n k 1)++[41])++r) ⟨rfl,rfl⟩).2]
   exact⟨by simp,by simp⟩
def FA (x:aa) (L:Int):Bool:=decide (x.1=5) && !decide (cn x.2.1 < L)
def Zl (f:List aa) (n:Nat):Prop := ∀(k s:Int) (h:Nat),dV f n k=some (s,h)→fQ f k=false → ∀(L:Int) (r:ag) (deep:Int),1≤L→L≤5→Bf r=true→FA (cm f k) L=false→0≤deep→deep+((bM f n k L++r).length:Int)≤380 →
 fa deep (ba (bM f n k L++r)) false (f.take s.toNat)=some ((k,()),((ba r,f.take (k.toNat+1),false,()),()))
def YL (f:List aa) (n:Nat):Prop := ∀(k s:Int) (h:Nat),dV f n k=some (s,h)→fQ f k=false → ∀(L:Int) (r:ag) (deep least:Int),1≤L→L≤5→Bf r=true→(ez r=0∨cn (ez r)≤L)→1≤least→least≤L→0≤deep→deep+((bM f n k L++r).length:Int)≤380 →
 bo least deep (ba (bM f n k L++r)) false (f.take s.toNat)=cw least deep k (ba r) false (f.take (k.toNat+1))
theorem XL {op deep:Int} {m:ag} {ns:List aa} (hl:m.length≤390):gG op deep (ba (40 :: m)) false ns=bZ op deep (ba m) false [] ns:=by
 have hb:bl (40 :: m)=40 :: m:=List.dropWhile_cons_of_neg (by decide)
 have hs:sg (40 :: m)=[40]:=by rw[ig (c:=40) (.inr (.inl rfl))]; rfl
 rw[qu,if_neg (by decide),show(⟨#[40]⟩:ByteArray)=ba [40] from rfl,cY (by rw[List.length_cons]; omega),hb,hs]
 simp
section
variable {f:List aa} (hf:f.length≤60)
include hf
theorem P6 {n:Nat} (HB:YL f n) {op deep:Int} (hd0:0≤deep) {r:ag} : ∀(ys pre:List Int) (s0 e:Int),ys≠[]→0≤s0→Hq f n true ys s0 e→pre.length+ys.length≤100→deep+1+((cb (ys.map fun y=>bM f n y 1)++41 :: r).length:Int)≤380 →
  bZ op deep (ba (cb (ys.map fun y=>bM f n y 1)++41 :: r)) false pre (f.take s0.toNat)=aG (6,op,(0,0,(⟨#[]⟩:ByteArray),()),((0,0,()),false,false,()),((0,0,()),false,false,()),pre++ys,()) (ba r) false (f.take e.toNat)
 | [],_,_,_,h,_,_,_,_=>absurd rfl h
 | y :: ys,pre,s0,e,_,hs0,hfw,hpl,hlen=>by
  obtain⟨⟨h',hc⟩,_,hfw'⟩:=hfw
  obtain⟨m,rfl⟩ : ∃ m,n=m+1:=by
   cases n with
   | zero=>cases hc
   | succ m=>exact⟨m,rfl⟩
  obtain⟨hy0,x,hx,hn,hok,hkids⟩:=rH hc
  obtain⟨tl,htl,htx⟩ : ∃ tl:ag,(tl=41 :: r∧ys=[]∨tl=44 :: (cb (ys.map fun y=>bM f (m+1) y 1)++41 :: r)∧ys≠[])∧cb ((y :: ys).map fun y=>bM f (m+1) y 1)++41 :: r=bM f (m+1) y 1++tl:=by
   cases ys with
   | nil=>exact⟨_,.inl ⟨rfl,rfl⟩,rfl⟩
   | cons z zs=>exact⟨_,.inr ⟨rfl,by simp⟩,by simp[cb]⟩
  rw[htx] at hlen ⊢
  have hst:Bf tl=true∧ez tl=0:=by
   rcases htl with⟨h,_⟩ | ⟨h,_⟩
   ·exact K0 (.inr (.inl (by rw[h]; rfl)))
   ·exact K0 (.inr (.inr (by rw[h]; rfl)))
  have hhd:=rG (K2 (m+1) y s0 h' hc 1) tl
  have hbl:=Sg hhd
  have htll:(tl.length:Int)≤380:=by
   rw[List.length_append] at hlen
   omega
  have hrl:(r.length:Int)+1≤380:=by
   rcases htl with⟨h,_⟩ | ⟨h,_⟩
   ·rw[h,List.length_cons] at htll
    omega
   ·rw[h,List.length_cons,List.length_append,List.length_cons] at htll
    omega
  have aR:((bi (⟨#[44]⟩:ByteArray) (ba tl) false (f.take (y.toNat+1))).bind fun z3=>(if(!z3.1.1)=true then(if z3.2.1.2.2.1=true then((aG (6,op,(0,0,(⟨#[]⟩:ByteArray),()),((0,0,()),false,false,()),((0,0,()),false,false,()),pre++[y],()) z3.2.1.1 true z3.2.1.2.1).bind fun z4=>(some ((z4.1.1,()),(z4.2.1,())))) else((bi (⟨#[41]⟩:ByteArray) z3.2.1.1 z3.2.1.2.2.1 z3.2.1.2.1).bind fun z5=>((aG (6,op,(0,0,(⟨#[]⟩:ByteArray),()),((0,0,()),false,false,()),((0,0,()),false,false,()),pre++[y],()) z5.2.1.1 (!z5.1.1) z5.2.1.2.1).bind fun z6=>(some ((z6.1.1,()),(z6.2.1,())))))) else(bZ op deep z3.2.1.1 z3.2.1.2.2.1 (pre++[y]) z3.2.1.2.1)))
    = aG (6,op,(0,0,(⟨#[]⟩:ByteArray),()),((0,0,()),false,false,()),((0,0,()),false,false,()),pre++y :: ys,()) (ba r) false (f.take e.toNat):=by
   rcases htl with⟨h,h2⟩ | ⟨h,h2⟩
   ·subst h2
    have he:y+1=e:=hfw'
    rw[h,Wk (by omega)]
    simp only[Option.bind_some,Bool.not_false,if_true,Bool.false_eq_true,if_false]
    rw[P4 (by omega)]
    simp only[Option.bind_some,Bool.not_true,gP]
    congr 2
    omega
   ·have ih:=P6 HB (op:=op) hd0 (r:=r) ys (pre++[y]) (y+1) e h2 (by omega) hfw' (by simp only[List.length_append,List.length_cons,List.length_nil] at hpl ⊢; omega) (by
     rw[List.length_append,h,List.length_cons] at hlen
     omega)
    have hcl:((cb (ys.map fun y=>bM f (m+1) y 1)++41 :: r).length:Int)≤380:=by
     rw[h,List.length_cons] at htll
     omega
    rw[h,XK (by omega)]
    simp only[Option.bind_some,Bool.not_true,Bool.false_eq_true,if_false]
    have e1:(y+1).toNat=y.toNat+1:=by omega
    rw[e1] at ih
    rw[ih]
    simp
  rw[jg]
  simp only[Bool.not_false,if_true]
  rw[Fw (by omega),hbl]
  by_cases har:fQ f y=true
  ·
   rw[CF hn,decide_eq_true_eq] at har
   cases DA hok with
   | con v _ _ _=>simp at har
   | cell p _=>simp at har
   | neg a=>simp at har
   | bin op a b _ _=>simp at har
   | call op ks _=>simp at har
   | area p q hp =>
    obtain⟨r1,r2⟩:=s8 hp
    have hs:s0=y:=hkids
    rw[Fz hn,List.append_assoc,List.cons_append]
    obtain⟨w1,w2⟩:=xg (oK r1).1 (r:=58 :: (fz q++tl)) ⟨rfl,rfl⟩
    obtain⟨w3,w4⟩:=Fx (oK r2).1 hst.1
    have hb2:bl (58 :: (fz q++tl))=58 :: (fz q++tl):=List.dropWhile_cons_of_neg (by decide)
    have har:ke (fz p++58 :: (fz q++tl))=fz q++tl:=by
     unfold ke
     rw[w2,hb2]
     exact Sg (rG (Hs (oK r2).1 (K1 r2)) tl)
    have hab:Bd (fz p++58 :: (fz q++tl))=true:=by
     unfold Bd
     rw[w1,w2,pA r1,hb2]
     rfl
    rw[if_pos hab,har,w1,w3,w4,pA r1,pA r2]
    simp only[Option.bind_some,if_true,Bool.not_true,Bool.or_false]
    rw[hs,CE hf hx]
    simp only[Option.bind_some]
    rw[bp (by simp only[List.length_singleton]; simp only[List.length_cons] at hpl; omega),Int.toNat_of_nonneg hy0]
    exact aR
  ·
   have har':fQ f y=false:=by simpa using har
   obtain⟨c1,c2⟩:=Uv (m+1) y s0 h' hc har' 1 tl hst.1
   have hab : ¬Bd (bM f (m+1) y 1++tl)=true:=by
    unfold Bd
    rw[Zc c2]
    simp[c1]
   rw[if_neg hab]
   simp only[Option.bind_some,Bool.false_eq_true,if_false]
   rw[wr (by omega) (by omega),HB y s0 h' hc har' 1 tl (deep+1) 1 (by decide) (by decide) hst.1 (.inl hst.2) (by decide) (by decide) (by omega) (by omega),DB (by omega) hst.1 (.inl hst.2)]
   simp only[Option.bind_some]
   rw[bp (by simp only[List.length_singleton]; simp only[List.length_cons] at hpl; omega)]
   exact aR
theorem P7 {n:Nat} (HB:YL f n) {k s op a b:Int} (hk0:0≤k) (hx:f[k.toNat]? = some (5,op,v0,p0,p0,[a,b],())) (h1:1≤op) (h2:op≤11) (hfw:Hq f n false [a,b] s k) {r:ag} {deep least:Int} (hr:Bf r=true) (ho:ez r=0∨cn (ez r)≤cn op) (hl1:1≤least) (hl2:least≤cn op) (hd0:0≤deep) (hd:deep+((xh f n op a b++r).length:Int)≤380) :
  bo least deep (ba (xh f n op a b++r)) false (f.take s.toNat)=cw least deep k (ba r) false (f.take (k.toNat+1)):=by
 obtain⟨⟨ha,hca⟩,haa,⟨hb,hcb⟩,hab,hbk⟩:=hfw
 have hbk:b+1=k:=hbk
 have naa:fQ f a=false:=by
  rw[Bool.eq_false_iff]
  intro h
  have:=haa h
  cases this
 have nab:fQ f b=false:=by
  rw[Bool.eq_false_iff]
  intro h
  have:=hab h
  cases this
 obtain⟨v1,v2⟩:=Fy op
 have hhd:=K2 n b (a+1) hb hcb (cn op+1)
 have hhd2:=rG hhd r
 unfold xh at hd ⊢
 rw[List.append_assoc,List.append_assoc] at hd ⊢
 have ha0:0≤a:=by
  have:=fX f n a s ha hca
  omega
 have hb0:0≤b:=by
  have:=fX f n b (a+1) hb hcb
  omega
 rw[List.length_append,List.length_append] at hd
 rw[HB a s ha hca naa (cn op) _ deep least v1 (by omega) (Sf h1 h2 _) (.inr (by rw[Uq h1 h2 hhd2]; omega)) hl1 hl2 hd0 (by rw[List.length_append,List.length_append]; omega),Zb h1 h2 hhd2 (by omega) hl2]
 have ea:(a+1).toNat=a.toNat+1:=by omega
 have:=HB b (a+1) hb hcb nab (cn op+1) r deep (cn op+1) (by omega) (by omega) hr (ho.imp id fun h=>by omega) (by omega) (by omega) hd0 (by omega)
 rw[ea] at this
 rw[this,DB (by rw[List.length_append] at hd; omega) hr (ho.imp id fun h=>by omega)]
 simp only[Option.bind_some]
 have eb:b.toNat+1=k.toNat:=by omega
 have hp:aG (5,op,(0,0,(⟨#[]⟩:ByteArray),()),((0,0,()),false,false,()),((0,0,()),false,false,()),[a,b],()) (ba r) false (f.take k.toNat)=_:=CE hf hx r
 rw[eb,hp]
 simp only[Option.bind_some]
 rw[Int.toNat_of_nonneg hk0]
theorem Uw : ∀ n:Nat,Zl f n∧YL f n
 | 0=>⟨(fun k s h e=>by cases e),(fun k s h e=>by cases e)⟩
 | n+1=>by
  obtain⟨IU,IB⟩:=Uw n
  have U:Zl f (n+1):=by
   intro k s h e har L r deep hL1 hL2 hr hbin hd0 hd
   obtain⟨hk0,x,hx,hn,hok,hfw⟩:=rH e
   have hhd:=rG (K2 (n+1) k s h e L) r
   have hbl:=Sg hhd
   rw[CF hn] at har
   rw[hn] at hbin
   have aR:s=k→aG x (ba r) false (f.take s.toNat)=some ((k,()),((ba r,f.take (k.toNat+1),false,()),())):=by
    rintro rfl
    rw[CE hf hx,Int.toNat_of_nonneg hk0]
   cases DA hok with
   | con v hv v0' v1 =>
    have hs:s=k:=hfw
    rw[DE hn] at hd hbl ⊢
    by_cases h2:v.1=2
    ·rw[if_pos h2] at hd hbl ⊢
     have hve:v=(2,0,ba (lb v.2.2.1),()):=by
      rw[eO]
      exact Prod.ext h2 (Prod.ext (PU hv h2) rfl)
     rw[List.cons_append,List.append_assoc,List.singleton_append] at hd hbl ⊢
     simp only[List.length_cons,List.length_append] at hd
     rw[uD hd0 (by simp only[List.length_cons,List.length_append]; omega) (by rw[hbl]; simp),hbl,Uu (by omega) (W3 hr).1,←hve]
     exact aR hs
    ·rw[if_neg h2] at hd hbl ⊢
     rw[List.length_append] at hd
     rcases DC hv v0' v1 h2 with⟨m,rfl,hm⟩ | ⟨h3,h4,h5⟩
     ·have e1:cB (vE (m.val:Int))=dg (m.val:Int):=rfl
      rw[e1] at hd hbl ⊢
      have h45:(lb (dg (m.val:Int))++r).head? ≠ some 45:=by
       have : ∀ m:Fin 6,1≤m.val→lb (dg (m.val:Int))=35 :: dz (m.val:Int):=by decide +kernel
       rw[this m hm]
       simp
      rw[uD hd0 (by rw[List.length_append]; omega) (by rw[hbl]; exact h45),hbl,Wm hm (by omega)]
      exact aR hs
     ·have h45:(lb (cB v)++r).head? ≠ some 45:=by
       cases hw:lb (cB v) with
       | nil=>exact absurd hw h4
       | cons c t =>
        rw[hw] at h3
        simp only[List.all_cons,Bool.and_eq_true] at h3
        have:aL c=true→c≠45:=qB (p:=fun c=>aL c=true→c≠45) (by decide +kernel) c
        simpa using this h3.1
      rw[uD hd0 (by rw[List.length_append]; omega) (by rw[hbl]; exact h45),hbl,CG (by omega) h3 h4 (Se hr)]
      unfold fh
      rw[Ax hv,if_pos ⟨rfl,h5⟩,jO]
      exact aR hs
   | cell p hp =>
    have hs:s=k:=hfw
    rw[AI hn] at hd hbl ⊢
    rw[List.length_append] at hd
    obtain⟨w1,c,t,ec,hc⟩:=oK hp
    have h45:(fz p++r).head? ≠ some 45:=by
     rw[ec]
     simpa using (W4 c hc).2.2.1
    rw[uD hd0 (by rw[List.length_append]; omega) (by rw[hbl]; exact h45),hbl,CG (by omega) w1 (K1 hp) (Se hr)]
    unfold fh
    rw[if_neg (by rw[Wj hp]; exact fun h=>by cases h.1),pA hp,if_pos rfl]
    exact aR hs
   | area p q hp=>simp at har
   | neg a =>
    obtain⟨⟨ha,hca⟩,haa,hak⟩:=hfw
    have hak:a+1=k:=hak
    have naa:fQ f a=false:=by
     rw[Bool.eq_false_iff]
     intro h
     have:=haa h
     simp at this
    have ha0:0≤a:=by
     have:=fX f n a s ha hca
     omega
    rw[DF hn] at hd hbl ⊢
    rw[List.cons_append] at hd hbl ⊢
    rw[List.length_cons] at hd
    have nb:FA (cm f a) 5=false:=by
     unfold FA
     have:=Fy (cm f a).2.1
     rw[decide_eq_true (show cn (cm f a).2.1 < 5 by omega)]
     simp
    rw[YJ hd0 (by rw[List.length_cons]; omega) (by rw[hbl]; rfl),hbl]
    simp only[List.drop_succ_cons,List.drop_zero]
    rw[IU a s ha hca naa 5 r (deep+1) (by decide) (by decide) hr nb (by omega) (by omega)]
    simp only[Option.bind_some]
    have ea:a.toNat+1=k.toNat:=by omega
    rw[ea]
    refine(CE hf hx r).trans ?_
    rw[Int.toNat_of_nonneg hk0]
   | bin op a b h1 h2 =>
    have hlt:cn op < L:=by
     unfold FA at hbin
     simpa using hbin
    rw[zk hn,if_pos hlt] at hd hbl ⊢
    rw[List.cons_append,List.append_assoc,List.singleton_append] at hd hbl ⊢
    rw[List.length_cons] at hd
    have hll:=hd
    rw[List.length_append,List.length_cons] at hll
    obtain⟨v1,v2⟩:=Fy op
    have h41:=K0 (r:=41 :: r) (.inr (.inl rfl))
    rw[uD hd0 (by rw[List.length_cons]; omega) (by rw[hbl]; simp),hbl,YK (by omega),wr (by omega) (by omega),P7 hf IB hk0 hx h1 h2 hfw h41.1 (.inl h41.2) (by decide) v1 (by omega) (by omega),DB (by rw[List.length_cons]; omega) h41.1 (.inl h41.2)]
    simp only[Option.bind_some,Bool.false_eq_true,if_false]
    rw[P4 (by omega)]
    rfl
   | call op ks ha =>
    obtain⟨g1,g2,g3,g4⟩:=DD ha
    obtain⟨f1,f2,f3,f4,f5⟩:=Hr g1 g2
    rw[AJ hn] at hd hbl ⊢
    rw[List.append_assoc,List.cons_append,List.append_assoc,List.singleton_append] at hd hbl ⊢
    have h45:(dM op++40 :: (cb (ks.map fun k=>bM f n k 1)++41 :: r)).head? ≠ some 45:=by
     cases hw:dM op with
     | nil=>exact absurd hw f2
     | cons c t =>
      rw[hw] at f1
      simp only[List.all_cons,Bool.and_eq_true] at f1
      have:aL c=true→c≠45:=qB (p:=fun c=>aL c=true→c≠45) (by decide +kernel) c
      simpa using this f1.1
    have hll:=hd
    rw[List.length_append,List.length_cons] at hll
    have hfl:1≤(dM op).length:=List.length_pos_iff.2 f2
    rw[uD hd0 (by omega) (by rw[hbl]; exact h45),hbl,CG (by rw[List.length_cons]; omega) f1 f2 ⟨rfl,rfl⟩]
    unfold fh
    rw[if_neg (by rw[f3]; exact fun h=>by cases h.1),if_neg (by rw[f4]; decide),f5]
    simp only
    have hs0:0≤s:=(fX f (n+1) k s h e).1
    have hkn:ks≠[]:=by
     rintro rfl
     simp at g3
    have hfw':Hq f n true ks s k:=by
     have:decide (((6,op,v0,p0,p0,ks,()):aa).1=6)=true:=rfl
     rw[this] at hfw
     exact hfw
    rw[XL (by omega),P6 hf IB hd0 ks [] s k hkn hs0 hfw' (by simp only[List.length_nil]; omega) (by omega),List.nil_append]
    refine(CE hf hx r).trans ?_
    rw[Int.toNat_of_nonneg hk0]
  refine⟨U,?_⟩
  intro k s h e har L r deep least hL1 hL2 hr ho hl1 hl2 hd0 hd
  by_cases hb:FA (cm f k) L=true
  ·obtain⟨hk0,x,hx,hn,hok,hfw⟩:=rH e
   rw[hn] at hb
   unfold FA at hb
   rw[Bool.and_eq_true,decide_eq_true_eq,Bool.not_eq_true',decide_eq_false_iff_not] at hb
   cases DA hok with
   | con v _ _ _=>simp at hb
   | cell p _=>simp at hb
   | area p q _=>simp at hb
   | neg a=>simp at hb
   | call op ks _=>simp at hb
   | bin op a b h1 h2 =>
    have hge : ¬cn op < L:=hb.2
    rw[zk hn,if_neg hge] at hd ⊢
    exact P7 hf IB hk0 hx h1 h2 hfw hr (ho.imp id fun h=>by omega) hl1 (by omega) hd0 hd
  ·have hb':FA (cm f k) L=false:=by simpa using hb
   rw[nS,U k s h e har L r deep hL1 hL2 hr hb' hd0 hd]
   rfl
end
def lA (c:UInt8):Bool:=decide (32≤c.toNat) && decide (c.toNat≤126)
theorem AK {l:ag}:plain (ba l)=l.all lA:=by
 unfold plain
 rw[TS,List.all_map]
 congr 1
 funext c
 simp only[Function.comp,sX,lA]
 rw[Bool.eq_iff_iff]
 simp only[decide_eq_true_eq,Bool.and_eq_true]
 omega
theorem DG {w:ag} (h:w.all aL=true):w.all lA=true:=by
 rw[List.all_eq_true] at h ⊢
 intro c hc
 exact qB (p:=fun c=>aL c=true→lA c=true) (by decide +kernel) c (h c hc)
theorem Sj : ∀ {l:ag},l.all lA=true→(qT l).all lA=true
 | [],_=>rfl
 | c :: l,h=>by
  simp only[List.all_cons,Bool.and_eq_true] at h
  unfold qT
  split
  ·simp only[List.all_cons,Sj h.2,Bool.and_true]
   decide
  ·simp only[List.all_cons,h.1,Sj h.2,Bool.and_true]
theorem Ka : ∀ {l:List ag},(∀ x∈l,x.all lA=true)→(cb l).all lA=true
 | [],_=>rfl
 | [x],h=>h x (by simp)
 | x :: y :: l,h=>by
  have ih:=Ka (l:=y :: l) fun z hz=>h z (List.mem_cons_of_mem _ hz)
  show(x++44 :: cb (y :: l)).all lA=true
  rw[List.all_append,List.all_cons,h x (by simp),ih]
  decide
theorem YM {op:Int} (h0:1≤op) (h1:op≤11):(du op).all lA=true:=by
 have : ∀ k:Fin 12,(du (k.val:Int)).all lA=true:=by decide +kernel
 have h:=this ⟨op.toNat,by omega⟩
 simpa only[Int.toNat_of_nonneg (show 0≤op by omega)] using h
theorem zl {f:List aa} {n:Nat} {call:Bool} : ∀ {l:List Int} {s e:Int},Hq f n call l s e → ∀ y∈l,∃ s h,dV f n y=some (s,h)
 | [],_,_,_,y,hy=>by cases hy
 | z :: l,s,e,h,y,hy=>by
  rcases List.mem_cons.1 hy with rfl | hy
  ·obtain⟨h',hc⟩:=h.1
   exact⟨s,h',hc⟩
  ·exact zl h.2.2 y hy
theorem DH {f:List aa} : ∀(n:Nat) (k s:Int) (h:Nat),dV f n k=some (s,h) → ∀ L,(bM f n k L).all lA=true
 | 0,k,s,h,e,L=>by cases e
 | n+1,k,s,h,e,L=>by
  obtain⟨h0,x,hx,hn,hok,hfw⟩:=rH e
  cases DA hok with
  | con v hv v0' v1 =>
   rw[DE hn]
   by_cases h2:v.1=2
   ·rw[if_pos h2,List.all_cons,List.all_append,Sj]
    ·decide
    ·have hp:plain v.2.2.1=true:=by
      unfold ao at hv
      rw[if_pos h2] at hv
      simp only[Bool.and_eq_true] at hv
      exact hv.2.1
     rw[←eO v.2.2.1,AK] at hp
     exact hp
   ·rw[if_neg h2]
    rcases DC hv v0' v1 h2 with⟨m,rfl,hm⟩ | ⟨h3,h4,_⟩
    ·have : ∀ m:Fin 6,1≤m.val→(lb (cB (vE (m.val:Int)))).all lA=true:=by decide +kernel
     exact this m hm
    ·exact DG h3
  | cell p hp =>
   rw[AI hn]
   exact DG (oK hp).1
  | area p q hp =>
   rw[Fz hn,List.all_append,List.all_cons,DG (oK (s8 hp).1).1,DG (oK (s8 hp).2).1]
   decide
  | neg a =>
   obtain⟨s',h',hc⟩:=zl hfw a (by simp)
   rw[DF hn,List.all_cons,DH n a s' h' hc]
   decide
  | bin op a b h1 h2 =>
   obtain⟨s1,h1',c1⟩:=zl hfw a (by simp)
   obtain⟨s2,h2',c2⟩:=zl hfw b (by simp)
   have hb:(xh f n op a b).all lA=true:=by
    unfold xh
    rw[List.all_append,List.all_append,DH n a s1 h1' c1,DH n b s2 h2' c2,YM h1 h2]
    rfl
   rw[zk hn]
   split
   ·rw[List.all_cons,List.all_append,hb]
    decide
   ·exact hb
  | call op ks ha =>
   obtain⟨g1,g2,_⟩:=DD ha
   obtain⟨f1,_⟩:=Hr g1 g2
   rw[AJ hn,List.all_append,List.all_cons,List.all_append,DG f1,Ka]
   ·decide
   ·intro z hz
    obtain⟨y,hy,rfl⟩:=List.mem_map.1 hz
    obtain⟨s',h',hc⟩:=zl hfw y hy
    exact DH n y s' h' hc 1
def fT (f:List aa):ag:=bM f f.length ((f.length:Int) - 1) 1
theorem P8 {f:List aa} (h:eH f=true):f.length≤60∧1≤f.length∧fQ f ((f.length:Int) - 1)=false ∧ ∃ d,dV f f.length ((f.length:Int) - 1)=some (0,d):=by
 unfold eH s4 at h
 rw[Bool.and_eq_true] at h
 obtain⟨h1,h2⟩:=h
 have h1:=bu.1 h1
 split at h2
 ·rename_i s d hc
  simp only[Bool.and_eq_true,decide_eq_true_eq,Bool.not_eq_true'] at h2
  rw[h2.1] at hc
  exact⟨by omega,by omega,h2.2.1,d,hc⟩
 ·cases h2
theorem Ux {f:List aa} (h:eH f=true) (hl:(fT f).length≤200):iX (ba (fT f))=some ((f,true,()),()):=by
 obtain⟨h60,h1,har,d,hc⟩:=P8 h
 have hp:plain (ba (fT f))=true:=by
  rw[AK]
  exact DH _ _ _ _ hc 1
 have hst:=K0 (r:=[]) (.inl rfl)
 have hB:=(Uw h60 f.length).2 _ 0 d hc har 1 [] 0 1 (by decide) (by decide) hst.1 (.inl hst.2) (by decide) (by decide) (by decide) (by rw[List.append_nil]; show(0:Int)+((fT f).length:Int)≤380; omega)
 rw[List.append_nil] at hB
 have hB:bo 1 0 (ba (fT f)) false []=_:=hB
 rw[DB (by simp) hst.1 (.inl hst.2)] at hB
 have ek:((f.length:Int) - 1).toNat+1=f.length:=by omega
 rw[ek,List.take_length] at hB
 have hs:=la h
 have hn : ∀ x∈f,df x=true:=by
  intro x hx
  obtain⟨i,hi⟩:=List.getElem?_of_mem hx
  exact(hs i x hi).1
 have hsm:sm f=true:=by
  unfold sm
  rw[List.all_eq_true]
  exact fun x hx=>J4 (hn x hx)
 rw[wJ,ui (by rw[ay]; omega),hp]
 have h200:decide (((ba (fT f)).size:Int)≤200)=true:=decide_eq_true (by rw[ay]; omega)
 rw[h200]
 simp only[Option.bind_some,Bool.and_self,Bool.not_true,Bool.false_eq_true,if_false]
 rw[hB]
 simp only[Option.bind_some]
 rw[nD]
 simp only[Option.bind_some,Bool.false_eq_true,if_false]
 have e0:(ByteArray.toList (ba (bl [])) == ByteArray.toList (⟨#[]⟩:ByteArray))=true:=by
  rw[show(⟨#[]⟩:ByteArray)=ba [] from rfl,dL]
  rfl
 rw[e0]
 simp only[Bool.not_true,Bool.false_eq_true,if_false]
 rw[jx (by omega) (Iv hsm) (Iw hsm),h]
 rfl
noncomputable def fe (x:ByteArray):List aa×Bool:=if h:x.size≤9223372036854775807 then((KZ h).choose,(KZ h).choose_spec.choose) else([],false)
theorem qI {x:ByteArray} (h:x.size≤9223372036854775807):mo x=some (((fe x).1,(fe x).2,()),())∧iX x=some (((fe x).1,(fe x).2,()),())∧((fe x).2=true→eH (fe x).1=true)∧((fe x).2=false→(fe x).1=[]):=by
 unfold fe
 rw[dif_pos h]
 exact(KZ h).choose_spec.choose_spec
theorem Wn {f:List aa} (h:eH f=true) (hl:(fT f).length≤200):fe (ba (fT f))=(f,true):=by
 have h1:=(qI (x:=ba (fT f)) (by rw[ay]; omega)).2.1
 rw[Ux h hl] at h1
 have:=Option.some.inj h1
 have e1:(fe (ba (fT f))).1=f:=(congrArg (fun z=>z.1.1) this).symm
 have e2:(fe (ba (fT f))).2=true:=(congrArg (fun z=>z.1.2.1) this).symm
 exact Prod.ext e1 e2
def gY (f:List aa):ag:=if eH f=true∧(fT f).length≤200 then fT f else []
theorem vJ {f:List aa} (h:eH f=true):f.length≤60∧(∀ x∈f,x.2.2.1.2.2.1.size≤9223372036854775807) ∧ ∀ x∈f,x.2.2.2.2.2.1.length≤10000000:=by
 have hs:dQ f=true:=by
  unfold dQ
  rw[List.all_eq_true]
  intro y hy
  obtain⟨i,hi⟩:=List.getElem?_of_mem hy
  exact(la h i y hi).1
 have ho':=h
 unfold eH at ho'
 rw[Bool.and_eq_true] at ho'
 have:=bu.1 ho'.1
 exact⟨by omega,Iv (vI hs),Iw (vI hs)⟩
theorem Wo {f:List aa} (hl:f.length≤10000000) (hs : ∀ x∈f,x.2.2.1.2.2.1.size≤9223372036854775807) (hk : ∀ x∈f,x.2.2.2.2.2.1.length≤10000000):qe f=some ((ba (gY f),()),())∧p9 f=some ((ba (gY f),()),()):=by
 rw[wK,wH,jx hl hs hk,lx hl hs hk]
 simp only[Option.bind_some]
 unfold gY
 cases ho:eH f with
 | false=>exact⟨rfl,rfl⟩
 | true =>
  simp only[Bool.not_true,Bool.false_eq_true,if_false]
  have ho':=ho
  unfold eH at ho'
  rw[Bool.and_eq_true] at ho'
  have hlen:=bu.1 ho'.1
  have ht:=ho'.2
  unfold s4 at ht
  cases hc:dV f f.length ((f.length:Int) - 1) with
  | none=>rw[hc] at ht; cases ht
  | some p =>
   obtain⟨h1,h2⟩:=Ix (by omega) f.length ((f.length:Int) - 1) p.1 p.2 hc
   rw[wr (by omega) (by omega),(h1 1).1,(h1 0).2,Hl]
   simp only[Option.bind_some,ay]
   by_cases hb:(fT f).length≤200
   ·have hb':(bM f f.length ((f.length:Int) - 1) 1).length≤200:=hb
    rw[ax (by omega),if_pos (by simp[hb])]
    exact⟨rfl,rfl⟩
   ·have hb' : ¬(bM f f.length ((f.length:Int) - 1) 1).length≤200:=hb
    rw[aF (by omega),if_neg (fun h=>hb h.2)]
    exact⟨rfl,rfl⟩
theorem Uy (f:List aa):(gY f).length≤200:=by
 unfold gY
 split
 ·rename_i h
  exact h.2
 ·exact Nat.zero_le _
noncomputable def hO (w:ag):ag×Bool :=
 if w=[] then([],true)
 else if(w.all lA && decide (w.length≤200))=false then([],false)
 else if w.head? = some 61 then(let r:=fe (ba (w.drop 1)); if r.2=true∧gY r.1≠[]∧(gY r.1).length < 200 then(61 :: gY r.1,true) else([],false))
 else if gA w=true then(lb (dr (lf w)),true)
 else if(bb w).2=true then(w,true)
 else if w.length=200 then([],false) else(39 :: w,true)
theorem Zr {w:ag} (hx:w.length≤9223372036854775807):rl (ba w)=some ((ba (hO w).1,(hO w).2,()),()):=by
 rw[Em,sj (by rw[ay]; exact hx)]
 simp only[Option.bind_some]
 have e0 : ∀ x:ag,(ByteArray.toList (ba x) == ByteArray.toList (⟨#[]⟩:ByteArray))=decide (x=[]):=fun x=>dL (b:=[])
 have e1:(plain (ba w) && decide (((ba w).size:Int)≤200))=(w.all lA && decide (w.length≤200)):=by
  rw[AK,ay]
  congr 1
  rw[Bool.eq_iff_iff,decide_eq_true_eq,decide_eq_true_eq]
  omega
 rw[e0,e1]
 unfold hO
 by_cases hw:w=[]
 ·subst hw
  rfl
 ·rw[if_neg hw,decide_eq_false hw]
  cases hp:(w.all lA && decide (w.length≤200)) with
  | false=>rfl
  | true =>
   rw[if_neg (by decide)]
   have hp':=hp
   rw[Bool.and_eq_true,decide_eq_true_eq] at hp'
   have hl:=hp'.2
   simp only[Bool.not_true,Bool.false_eq_true,if_false]
   cases w with
   | nil=>exact absurd rfl hw
   | cons c l =>
    rw[ot,Fm c 61 (n:=61) rfl]
    by_cases hc:c=61
    ·subst hc
     have hll:l.length≤200:=by rw[List.length_cons] at hl; omega
     simp only[List.head?_cons,decide_true,if_true,List.drop_succ_cons,List.drop_zero]
     rw[show(1:Int)=((1:Nat):Int) from rfl,fR (by simp)]
     simp only[List.drop_succ_cons,List.drop_zero]
     obtain⟨r1,_,r3,r4⟩:=qI (x:=ba l) (by rw[ay]; omega)
     rw[r1]
     simp only[Option.bind_some]
     have hsm:(fe (ba l)).1.length≤10000000∧(∀ x∈(fe (ba l)).1,x.2.2.1.2.2.1.size≤9223372036854775807) ∧ ∀ x∈(fe (ba l)).1,x.2.2.2.2.2.1.length≤10000000:=by
      cases hb:(fe (ba l)).2 with
      | false=>rw[r4 hb]; simp
      | true =>
       have:=vJ (r3 hb)
       exact⟨by omega,this.2⟩
     have hfl:=Uy (fe (ba l)).1
     rw[(Wo hsm.1 hsm.2.1 hsm.2.2).2]
     simp only[Option.bind_some]
     rw[e0,ay,show(⟨#[61]⟩:ByteArray)=ba [61] from rfl,bF (by simp only[List.length_singleton]; omega),wr (by omega) (by omega)]
     cases hb:(fe (ba l)).2 with
     | false=>simp
     | true =>
      by_cases h1:gY (fe (ba l)).1=[]
      ·simp[h1]
      ·by_cases h2:(gY (fe (ba l)).1).length < 200
       ·rw[ax h1,ax (by omega)]
        simp[h1,h2]
       ·rw[ax h1,aF (by omega)]
        simp[h1,h2]
    ·have hnc : ¬(c :: l).head? = some (61:UInt8):=by simpa using hc
     rw[if_neg hnc]
     simp only[hc,decide_false,Bool.false_eq_true,if_false]
     generalize hwd:(c :: l:ag)=w at *
     have hsz:(ba w).size=w.length:=ay w
     obtain⟨v,n1,n2⟩:=CB hw (by omega)
     rw[n1,oJ (by omega)]
     simp only[Option.bind_some]
     cases ho:gA w with
     | true =>
      have hrg:=AG ho
      have hok:ao (vN (lf w))=true:=by
       rw[Wh]
       exact bu.2 hrg
      rw[n2 ho]
      simp only[if_true]
      rw[gd (da hok),if_pos hok]
      simp only[Option.bind_some,eO]
      rfl
     | false =>
      simp only[Bool.false_eq_true,if_false]
      cases hr:(bb w).2 with
      | true =>
       obtain⟨k1,k2⟩:=oZ hr
       simp only[Bool.not_true,Bool.false_eq_true,if_false]
       rw[gd (da k1),if_pos k1,k2]
       simp only[Option.bind_some]
       rw[ax (by rw[hsz]; omega)]
       rfl
      | false =>
       simp only[Bool.not_false,Bool.false_eq_true,if_false,if_true]
       have hov:ao (2,0,ba w,())=true:=by
        unfold ao
        rw[if_pos rfl]
        simp only[decide_true,Bool.true_and]
        rw[e1]
        exact hp
       have htx:cB (2,0,ba w,())=ba (39 :: w):=by
        show(⟨#[39]⟩:ByteArray)++ba w=_
        rw[show(⟨#[39]⟩:ByteArray)=ba [39] from rfl,oq]
        rfl
       rw[gd (da hov),if_pos hov,htx]
       simp only[Option.bind_some,ay,List.length_cons]
       by_cases h2:w.length=200
       ·rw[aF (by omega),if_pos h2]
        rfl
       ·rw[ax (by omega),if_neg h2]
        rfl
theorem DI {w:ag} (hx:w.length≤9223372036854775807):fE (ba w)=(ba (hO w).1,(hO w).2):=by
 have h:=(zj (x:=ba w) (by rw[ay]; exact hx)).2.1
 rw[Zr hx] at h
 have:=Option.some.inj h
 exact Prod.ext (congrArg (fun z=>z.1.1) this).symm (congrArg (fun z=>z.1.2.1) this).symm
theorem Wp {n:Int} (h0 : -1000000000000000≤n) (h1:n≤1000000000000000):gA (lb (dr n))=true∧lf (lb (dr n))=n∧(lb (dr n)).all lA=true∧(lb (dr n)).head? ≠ some 61∧(lb (dr n)).length≤20∧lb (dr n)≠[]:=by
 have hsz:=qz (n:=n) (by omega) (by omega)
 have hd : ∀ u:Nat,u≤1000000000000000→(Lib.decDigits u).all dx=true∧bA 0 (Lib.decDigits u)=u∧Lib.decDigits u≠[]∧(Lib.decDigits u).head? ≠ some 45∧(Lib.decDigits u).head? ≠ some 61∧(Lib.decDigits u).all lA=true:=by
  intro u hu
  have ha:=Dp (rs u)
  refine⟨ha,rq u,zd.1,zd.2.2.2.1,?_,DG (P5 u)⟩
  intro h
  cases hdd:Lib.decDigits u with
  | nil=>rw[hdd] at h; cases h
  | cons c t =>
   rw[hdd] at h ha
   simp only[List.head?_cons,Option.some.injEq] at h
   subst h
   simp[dx] at ha
 by_cases hn:n < 0
 ·obtain⟨d1,d2,d3,d4,d5,d6⟩:=hd (-n).toNat (by omega)
  have e:lb (dr n)=45 :: Lib.decDigits (-n).toNat:=by rw[xb hn,dP]
  rw[←jy,e] at hsz
  rw[e]
  have hm:jf (45 :: Lib.decDigits (-n).toNat)=Lib.decDigits (-n).toNat:=rfl
  have hg:Nv (45 :: Lib.decDigits (-n).toNat)=true:=rfl
  refine⟨?_,?_,?_,by simp,hsz,by simp⟩
  ·unfold gA jP
   rw[hm,d1,d2,decide_eq_true d3,decide_eq_true (by omega)]
   rfl
  ·unfold lf rF
   rw[hm,hg,d2,if_pos rfl]
   omega
  ·rw[List.all_cons,d6]
   rfl
 ·obtain⟨d1,d2,d3,d4,d5,d6⟩:=hd n.toNat (by omega)
  have e:lb (dr n)=Lib.decDigits n.toNat:=by
   rw[show dr n=dr (n.toNat:Int) by rw[show(n.toNat:Int)=n by omega],mO,dP]
  rw[←jy,e] at hsz
  rw[e]
  have hm:jf (Lib.decDigits n.toNat)=Lib.decDigits n.toNat:=if_neg d4
  have hg:Nv (Lib.decDigits n.toNat)=false:=decide_eq_false d4
  refine⟨?_,?_,d6,d5,hsz,d3⟩
  ·unfold gA jP
   rw[hm,d1,d2,decide_eq_true d3,decide_eq_true (by omega)]
   rfl
  ·unfold lf rF
   rw[hm,hg,d2,if_neg (by decide)]
   omega
theorem Nz {f:List aa} (h:eH f=true) (hl:(fT f).length < 200) (hne:fT f≠[]):hO (61 :: fT f)=(61 :: fT f,true):=by
 obtain⟨h60,h1,har,d,hc⟩:=P8 h
 have hp:(61 :: fT f).all lA=true:=by
  rw[List.all_cons]
  exact(Bool.and_eq_true _ _).mpr ⟨by decide,DH _ _ _ _ hc 1⟩
 have ht:gY f=fT f:=if_pos ⟨h,by omega⟩
 unfold hO
 rw[if_neg (by simp),hp,decide_eq_true (by rw[List.length_cons]; omega),if_neg (by decide),if_pos (by rfl)]
 simp only[List.drop_succ_cons,List.drop_zero]
 rw[Wn h (by omega)]
 simp only[ht]
 rw[if_pos (by simp[hne,hl])]
theorem DJ {w:ag} (hw:w≠[]) (hp:(w.all lA && decide (w.length≤200))=true):hO w=if w.head? = some 61 then(let r:=fe (ba (w.drop 1)); if r.2=true∧gY r.1≠[]∧(gY r.1).length < 200 then(61 :: gY r.1,true) else([],false)) else if gA w=true then(lb (dr (lf w)),true) else if(bb w).2=true then(w,true) else if w.length=200 then([],false) else(39 :: w,true):=by
 unfold hO
 rw[if_neg hw,hp,if_neg (by decide)]
theorem Uz {w:ag} (h:(hO w).2=true) (hne:(hO w).1≠[]):hO (hO w).1=((hO w).1,true):=by
 by_cases hw:w=[]
 ·have e:hO w=([],true):=if_pos hw
  rw[e] at hne
  exact absurd rfl hne
 ·cases hp:(w.all lA && decide (w.length≤200)) with
  | false =>
   have e:hO w=([],false):=by
    unfold hO
    rw[if_neg hw,hp,if_pos rfl]
   rw[e] at h
   cases h
  | true =>
   have hp':=hp
   rw[Bool.and_eq_true,decide_eq_true_eq] at hp'
   have e:=DJ hw hp
   by_cases h61:w.head? = some 61
   ·rw[if_pos h61] at e
    dsimp only at e
    by_cases hr:(fe (ba (w.drop 1))).2=true∧gY (fe (ba (w.drop 1))).1≠[]∧(gY (fe (ba (w.drop 1))).1).length < 200
    ·have hd:(w.drop 1).length≤200:=by rw[List.length_drop]; omega
     have hok:=(qI (x:=ba (w.drop 1)) (by rw[ay]; omega)).2.2.1 hr.1
     have ht:gY (fe (ba (w.drop 1))).1=fT (fe (ba (w.drop 1))).1:=by
      have:=hr.2.1
      unfold gY at this ⊢
      by_cases k:eH (fe (ba (w.drop 1))).1=true∧(fT (fe (ba (w.drop 1))).1).length≤200
      ·rw[if_pos k]
      ·rw[if_neg k] at this
       exact absurd rfl this
     rw[if_pos hr,ht] at e
     rw[e]
     exact Nz hok (by rw[←ht]; exact hr.2.2) (by rw[←ht]; exact hr.2.1)
    ·rw[if_neg hr] at e
     rw[e] at h
     cases h
   ·rw[if_neg h61] at e
    by_cases hn:gA w=true
    ·rw[if_pos hn] at e
     obtain⟨r0,r1⟩:=AG hn
     obtain⟨i1,i2,i3,i4,i5,i6⟩:=Wp r0 r1
     rw[e]
     dsimp only
     rw[DJ i6 (by rw[i3,decide_eq_true (by omega)]; rfl),if_neg i4,if_pos i1,i2]
    ·rw[if_neg hn] at e
     by_cases hv:(bb w).2=true
     ·rw[if_pos hv] at e
      rw[e]
      dsimp only
      exact e
     ·rw[if_neg hv] at e
      by_cases h200:w.length=200
      ·rw[if_pos h200] at e
       rw[e] at h
       cases h
      ·rw[if_neg h200] at e
       rw[e]
       dsimp only
       have hpl:(39 :: w).all lA=true:=by
        rw[List.all_cons,hp'.1]
        rfl
       have hov:ao (vT (ba w))=true:=by
        unfold ao vT
        rw[if_pos rfl]
        simp only[decide_true,Bool.true_and]
        rw[AK,hp'.1,ay]
        exact decide_eq_true (by omega)
       have hvt:(bb (39 :: w)).2=true:=by
        have e:lb (cB (vT (ba w)))=39 :: w:=by
         show lb ((⟨#[39]⟩:ByteArray)++ba w)=_
         rw[show(⟨#[39]⟩:ByteArray)=ba [39] from rfl,oq,dP]
         rfl
        have:=Ax hov
        rw[e] at this
        rw[this]
       have hnn : ¬gA (39 :: w)=true:=by
        unfold gA jP
        have hm:jf (39 :: w)=39 :: w:=rfl
        rw[hm,List.all_cons]
        have:dx 39=false:=by decide
        rw[this]
        simp
       rw[DJ (by simp) (by rw[hpl,decide_eq_true (by rw[List.length_cons]; omega)]; rfl),if_neg (by simp),if_neg hnn,if_pos hvt]
def Zd (x:ByteArray):Prop:=x=eS∨ji x=true
theorem XM {x:ByteArray} (hx:x.size≤9223372036854775807) (h:(fE x).2=true):Zd (fE x).1:=by
 obtain⟨w,rfl⟩ : ∃ s,x=ba s:=⟨lb x,(eO x).symm⟩
 rw[ay] at hx
 rw[DI hx] at h ⊢
 by_cases he:(hO w).1=[]
 ·left
  show ba (hO w).1=eS
  rw[he]
 ·right
  have hi:=Uz h he
  have hl:(hO w).1.length≤200:=by
   have:=(zj (x:=ba w) (by rw[ay]; exact hx)).2.2
   rw[DI hx,ay] at this
   exact this
  show ji (ba (hO w).1)=true
  unfold ji
  rw[DI (by omega),hi]
  have:ba (hO w).1≠eS:=fun e=>he (Cn (b:=[]) e)
  simp[this]
structure Zx (g:aa→aa):Prop where
 ok : ∀ x,df x=true→df (g x)=true
 kids : ∀ x,df x=true→(g x).2.2.2.2.2.1=x.2.2.2.2.2.1
 six : ∀ x,df x=true→((g x).1=6↔x.1=6)
 three : ∀ x,(g x).1=3→x.1=3
section
variable {g:aa→aa} (M:Zx g) {f:List aa}
include M
end
def Zs (row many:Int) (closed:Bool) (other n:Int):Int:=if n < row then n else if closed=false then n+many else if n < row+many then other else n - many
def rowP (row many:Int) (closed:Bool) (other:Int) (p:bJ):bJ:=((p.1.1,Zs row many closed other p.1.2.1,()),p.2.1,p.2.2.1,())
noncomputable def bI (x:ByteArray):Option (List aa):=if(lb x).head? = some 61∧(fe (ba ((lb x).drop 1))).2=true then some (fe (ba ((lb x).drop 1))).1 else none
theorem j8 {x:ByteArray} {f:List aa} (h:bI x=some f) (hx:x.size≤9223372036854775807):eH f=true:=by
 unfold bI at h
 split at h
 ·rename_i k
  cases h
  have hl:(ba ((lb x).drop 1)).size≤9223372036854775807:=by
   rw[ay,List.length_drop,jy]
   omega
  exact(qI hl).2.2.1 k.2
 ·cases h
section
variable {f:List aa} (hf:eH f=true)
include hf
end
section
variable {f:List aa} (hf:eH f=true)
include hf
end
theorem Sk {x:ByteArray}:ji x=((fE x).2 && !decide (x=eS) && decide ((fE x).1=x)):=rfl
section
variable {s:List ae} (hs : ∀ c∈s,c.2.1.size≤9223372036854775807) (hl:s.length≤1000000000000)
include hs hl
theorem Bg : ∀(ys pre:List ae),s=pre++ys→oe s (pre.length:Int)=some ((CD pre.getLast? ys,()),())
 | [],pre,h=>by
  rw[yJ,ax (bw h)]
  simp only[CD]
 | y :: ys,pre,h=>by
  have hy:=hs y (by rw[h]; simp)
  have ih:=Bg ys (pre++[y]) (av h)
  rw[List.getLast?_append] at ih
  simp only[List.getLast?_singleton,Option.or_some,Option.some_or] at ih
  rw[yJ,aF (bH h),bC h,(zj hy).2.1]
  simp only[Option.bind_some]
  rw[bC h,mM]
  simp only[Option.bind_some,CD,bC h,AV,Sk]
  cases hr:bK y.1 with
  | false=>simp
  | true =>
   cases hi:(fE y.2.1).2 with
   | false=>simp
   | true =>
    by_cases he:y.2.1=eS
    ·simp[he]
    ·by_cases hq:(fE y.2.1).1=y.2.1
     ·rcases List.eq_nil_or_concat pre with hp | ⟨q,z,hp⟩
      ·subst hp
       rw[aO (pre:=[]) h (by omega)]
       simp[he,hq]
       exact ih
      ·rw[List.concat_eq_append] at hp
       subst hp
       have hz:s=q++z :: (y :: ys):=by rw[h]; simp
       have hql:((q++[z]).length:Int) - 1=(q.length:Int):=by simp
       have hqs:q.length < s.length:=by rw[hz]; simp
       rw[hql,wr (by omega) (by omega),bC hz,EC,aO h (by omega)]
       simp only[Option.bind_some,List.getLast?_append,List.getLast?_singleton,Option.some_or]
       rw[ih]
       cases ha:ci z.1 y.1 <;> simp[he,hq]
     ·simp[he,hq]
theorem lM:mp s=some ((aW s,()),()):=by
 rw[Ot]
 by_cases h:s.length≤120
 ·rw[ax (by simp; omega)]
  have:=Bg hs hl s [] rfl
  simp only[List.length_nil,Int.ofNat_zero,List.getLast?_nil] at this
  rw[this]
  simp[aW,h]
 ·rw[aF (by simp; omega)]
  simp[aW,h]
end
theorem mS {a b:al}:(bv am a b=true)=(a=b):=propext (kD rfl)
noncomputable def dk (r:al):List ae→ByteArray
 | []=>eS
 | c :: cs=>if c.1=r then c.2.1 else dk r cs
theorem Ht {s:List ae} {r:al} (hl:s.length≤1000000000000) : ∀(ys pre:List ae),s=pre++ys→zY s (pre.length:Int) r.1 r.2.1=some ((dk r ys,()),())
 | [],pre,h=>by
  rw[Es,ax (bw h)]
  rfl
 | y :: ys,pre,h=>by
  have ih:=Ht (r:=r) hl ys (pre++[y]) (av h)
  rw[Es,aF (bH h),bC h,aO h (by omega),ih]
  show(if bv am y.1 r=true then _ else _)=_
  by_cases e:y.1=r
  ·rw[if_pos (by rw[mS]; exact e),bC h,dk,if_pos e]
  ·rw[if_neg (by rw[mS]; exact e),dk,if_neg e]
theorem NA {s:List ae} {r:al} (hl:s.length≤1000000000000):GC s r=some ((dk r s,()),()):=by
 rw[VF]
 exact Ht hl s [] rfl
theorem NB {α:Type} {lt:α→α→Bool} (hi : ∀ x,lt x x=false) (ht : ∀ x y z,lt x y=true→lt y z=true→lt x z=true) : ∀ {l m:List α},(l.Pairwise fun a b=>lt a b=true)→(m.Pairwise fun a b=>lt a b=true)→(∀ x,x∈l↔x∈m)→l=m
 | [],[],_,_,_=>rfl
 | [],y :: m,_,_,h=>by have:=(h y).2 (by simp); cases this
 | x :: l,[],_,_,h=>by have:=(h x).1 (by simp); cases this
 | x :: l,y :: m,hl,hm,h=>by
  rw[List.pairwise_cons] at hl hm
  have hxy:x=y:=by
   rcases List.mem_cons.1 ((h x).1 (by simp)) with e | hx
   ·exact e
   ·rcases List.mem_cons.1 ((h y).2 (by simp)) with e | hy
    ·exact e.symm
    ·have:=ht _ _ _ (hl.1 y hy) (hm.1 x hx)
     rw[hi] at this
     cases this
  subst hxy
  congr 1
  refine NB hi ht hl.2 hm.2 fun z=>⟨fun hz => ?_,fun hz => ?_⟩
  ·rcases List.mem_cons.1 ((h z).1 (List.mem_cons_of_mem _ hz)) with e | hz'
   ·subst e
    have:=hl.1 z hz
    rw[hi] at this
    cases this
   ·exact hz'
  ·rcases List.mem_cons.1 ((h z).2 (List.mem_cons_of_mem _ hz)) with e | hz'
   ·subst e
    have:=hm.1 z hz
    rw[hi] at this
    cases this
   ·exact hz'
theorem pB {a b:al}:ci a b=true↔a.2.1 < b.2.1∨(a.2.1=b.2.1∧a.1 < b.1):=by
 unfold ci
 simp
theorem vK (a:al):ci a a=false:=by
 rw[Bool.eq_false_iff]
 intro h
 have:=pB.1 h
 omega
theorem ow {a b c:al} (h:ci a b=true) (k:ci b c=true):ci a c=true:=by
 have:=pB.1 h
 have:=pB.1 k
 rw[pB]
 omega
theorem XN {a b:al} (h1:a.1=b.1) (h2:a.2.1=b.2.1):a=b:=Prod.ext h1 (Prod.ext h2 rfl)
theorem ED (a b:al):ci a b=true∨a=b∨ci b a=true:=by
 rw[pB,pB]
 by_cases h:a=b
 ·exact .inr (.inl h)
 ·by_cases h2:a.2.1=b.2.1
  ·have:a.1≠b.1:=fun e=>h (XN e h2)
   omega
  ·omega
theorem rJ {a b:al} (h:ci a b=true):a≠b:=by
 rintro rfl
 rw[vK] at h
 cases h
def jn (s:List ae):Prop:=s.Pairwise fun a b=>ci a.1 b.1=true
theorem P9 : ∀ {s:List ae} {o:Option ae},CD o s=true↔(∀ p,o=some p → ∀ c∈s,ci p.1 c.1=true)∧jn s ∧ ∀ c∈s,bK c.1=true∧ji c.2.1=true
 | [],o=>by simp[CD,jn]
 | c :: l,o=>by
  have ih:=P9 (s:=l) (o:=some c)
  simp only[CD,Bool.and_eq_true,ih]
  constructor
  ·rintro⟨⟨⟨h1,h2⟩,h3⟩,h4,h5,h6⟩
   refine⟨?_,List.pairwise_cons.2 ⟨fun d hd=>h4 c rfl d hd,h5⟩,?_⟩
   ·rintro p rfl d hd
    have h3:ci p.1 c.1=true:=h3
    rcases List.mem_cons.1 hd with rfl | hd
    ·exact h3
    ·exact ow h3 (h4 c rfl d hd)
   ·intro d hd
    rcases List.mem_cons.1 hd with rfl | hd
    ·exact⟨h1,h2⟩
    ·exact h6 d hd
  ·rintro⟨h1,h2,h3⟩
   have h2:=List.pairwise_cons.1 h2
   refine⟨⟨h3 c (by simp),?_⟩,?_,h2.2,fun d hd=>h3 d (List.mem_cons_of_mem _ hd)⟩
   ·cases o with
    | none=>rfl
    | some p=>exact h1 p rfl c (by simp)
   ·rintro p hp d hd
    cases hp
    exact h2.1 d hd
theorem j9 {s:List ae}:aW s=true↔jn s∧(∀ c∈s,bK c.1=true∧ji c.2.1=true)∧s.length≤120:=by
 unfold aW
 rw[Bool.and_eq_true,P9,decide_eq_true_eq]
 constructor
 ·rintro⟨⟨_,h1,h2⟩,h3⟩
  exact⟨h1,h2,h3⟩
 ·rintro⟨h1,h2,h3⟩
  exact⟨⟨(fun p hp=>by cases hp),h1,h2⟩,h3⟩
theorem CH {x:ByteArray}:ji x=true↔(fE x).2=true∧x≠eS∧(fE x).1=x:=by
 unfold ji
 simp[Bool.and_eq_true,and_assoc]
theorem Wq {x:ByteArray} (h:ji x=true):x≠eS:=(CH.1 h).2.1
theorem Kb (x:ByteArray):(fE x).1.size≤200:=by
 by_cases h:x.size≤9223372036854775807
 ·exact(zj h).2.2
 ·unfold fE
  rw[dif_neg h]
  decide
theorem Hu {x:ByteArray} (h:ji x=true):x.size≤200:=by
 have:=Kb x
 rw[(CH.1 h).2.2] at this
 exact this
def pe (r:al) (s:List ae):List ae:=s.filter fun c => !decide (c.1=r)
def vL (r:al) (x:ByteArray):List ae→List ae
 | []=>[(r,x,())]
 | c :: l=>if ci c.1 r=true then c :: vL r x l else(r,x,()) :: pe r (c :: l)
noncomputable def nW (s:List ae) (r:al) (x:ByteArray):List ae:=if x=eS then pe r s else vL r x s
theorem IC {r:al} {s:List ae} {c:ae}:c∈pe r s↔c∈s∧c.1≠r:=by simp[pe]
theorem Qa {r:al} {s:List ae} (h:jn s):jn (pe r s):=List.Pairwise.filter _ h
theorem xC {r:al} {c:ae} {l:List ae} (h:c.1≠r):pe r (c :: l)=c :: pe r l:=by simp[pe,h]
theorem EE {r:al} {c:ae} {l:List ae} (h:c.1=r):pe r (c :: l)=pe r l:=by simp[pe,h]
theorem NC {r:al} {x:ByteArray} : ∀ s:List ae,(vL r x s).Perm (pe r s++[(r,x,())])
 | []=>by simp[vL,pe]
 | c :: l=>by
  unfold vL
  by_cases h:ci c.1 r=true
  ·rw[if_pos h,xC (rJ h)]
   exact(NC l).cons c
  ·rw[if_neg h]
   exact(List.perm_append_singleton _ _).symm
theorem Qb {r:al} {x:ByteArray} {s:List ae} {c:ae}:c∈vL r x s↔(c∈s∧c.1≠r)∨c=(r,x,()):=by
 rw[(NC s).mem_iff,List.mem_append,IC,List.mem_singleton]
theorem Qc {r:al} {x:ByteArray} : ∀ {s:List ae},jn s→jn (vL r x s)
 | [],_=>by simp[vL,jn]
 | c :: l,h=>by
  have h':=List.pairwise_cons.1 h
  unfold vL
  by_cases k:ci c.1 r=true
  ·rw[if_pos k]
   refine List.pairwise_cons.2 ⟨fun d hd => ?_,Qc h'.2⟩
   rcases Qb.1 hd with⟨hd,_⟩ | rfl
   ·exact h'.1 d hd
   ·exact k
  ·rw[if_neg k]
   refine List.pairwise_cons.2 ⟨fun d hd => ?_,Qa h⟩
   obtain⟨hd,hn⟩:=IC.1 hd
   show ci r d.1=true
   rcases ED c.1 r with e | e | e
   ·exact absurd e k
   ·rcases List.mem_cons.1 hd with rfl | hd
    ·exact absurd e hn
    ·rw[←e]
     exact h'.1 d hd
   ·rcases List.mem_cons.1 hd with rfl | hd
    ·exact e
    ·exact ow e (h'.1 d hd)
theorem Qd {r:al} {x:ByteArray} {s:List ae} (h:jn s):jn (nW s r x):=by
 unfold nW
 split
 ·exact Qa h
 ·exact Qc h
theorem uE {r:al} {x:ByteArray} {s:List ae} {c:ae}:c∈nW s r x↔(c∈s∧c.1≠r)∨(x≠eS∧c=(r,x,())):=by
 unfold nW
 by_cases h:x=eS
 ·rw[if_pos h,IC]
  simp[h]
 ·rw[if_neg h,Qb]
  simp[h]
theorem AL {q:al} : ∀ {s:List ae},(∀ c∈s,c.1≠q)→dk q s=eS
 | [],_=>rfl
 | c :: l,h=>by
  rw[dk,if_neg (h c (by simp))]
  exact AL fun d hd=>h d (List.mem_cons_of_mem _ hd)
theorem s9 : ∀ {s:List ae} {c:ae},jn s→c∈s→dk c.1 s=c.2.1
 | d :: l,c,h,hc=>by
  have h':=List.pairwise_cons.1 h
  rw[dk]
  rcases List.mem_cons.1 hc with rfl | hc
  ·rw[if_pos rfl]
  ·rw[if_neg (rJ (h'.1 c hc))]
   exact s9 h'.2 hc
theorem FB {q:al} {s:List ae} (h:jn s):(∃ c∈s,c.1=q∧c.2.1=dk q s)∨((∀ c∈s,c.1≠q)∧dk q s=eS):=by
 by_cases k : ∃ c∈s,c.1=q
 ·obtain⟨c,hc,rfl⟩:=k
  exact .inl ⟨c,hc,rfl,(s9 h hc).symm⟩
 ·have k' : ∀ c∈s,c.1≠q:=fun c hc e=>k ⟨c,hc,e⟩
  exact .inr ⟨k',AL k'⟩
theorem UA {q r:al} {x:ByteArray} {s:List ae} (h:jn s):dk q (nW s r x)=if q=r then x else dk q s:=by
 have hs:=Qd (r:=r) (x:=x) h
 by_cases e:q=r
 ·subst e
  rw[if_pos rfl]
  by_cases hx:x=eS
  ·rw[AL,hx]
   intro c hc
   rcases uE.1 hc with⟨_,hn⟩ | ⟨hn,_⟩
   ·exact hn
   ·exact absurd hx hn
  ·exact s9 (c:=(q,x,())) hs (uE.2 (.inr ⟨hx,rfl⟩))
 ·rw[if_neg e]
  rcases FB (q:=q) h with⟨c,hc,rfl,hv⟩ | ⟨hn,hv⟩
  ·rw[s9 hs (uE.2 (.inl ⟨hc,e⟩)),hv]
  ·rw[hv,AL]
   intro c hc
   rcases uE.1 hc with⟨hc,_⟩ | ⟨_,rfl⟩
   ·exact hn c hc
   ·exact fun k=>e k.symm
theorem Hv {s:List ae} (h:aW s=true) : ∀ c∈s,c.2.1≠eS:=fun c hc=>Wq ((j9.1 h).2.1 c hc).2
theorem bP {s:List ae} (h:aW s=true):jn s:=(j9.1 h).1
theorem aX {s:List ae} (h:aW s=true):s.length≤120:=(j9.1 h).2.2
theorem mT {s:List ae} (h:aW s=true) : ∀ c∈s,c.2.1.size≤200:=fun c hc=>Hu ((j9.1 h).2.1 c hc).2
theorem OV {s:List ae} {r:al} {x:ByteArray} (h:aW s=true) (hr:bK r=true) (hx:x≠eS→ji x=true) (hl:(nW s r x).length≤120):aW (nW s r x)=true:=by
 rw[j9] at h ⊢
 refine⟨Qd h.1,?_,hl⟩
 intro c hc
 rcases uE.1 hc with⟨hc,_⟩ | ⟨hn,rfl⟩
 ·exact h.2.1 c hc
 ·exact⟨hr,hx hn⟩
section
variable {α R:Type}
def kI (p:α→Bool):List α→Nat→Int
 | [],_ => -1
 | c :: l,n=>if p c=true then(n:Int) else kI p l (n+1)
theorem vM {p:α→Bool} {s:List α} {d:α} {P:Int→Option R} {F:Int→Option R} (hl:s.length≤1000000000000)
  (hP : ∀ j,P j=if decide (j < (s.length:Int))=true then ix s j d fun y=>if p y=true then F j else P (IntKind.i64.wrap (j+1)) else F (-1)) : ∀(ys pre:List α),s=pre++ys→P (pre.length:Int)=F (kI p ys pre.length)
 | [],pre,h=>by
  rw[hP,ax (bw h)]
  rfl
 | y :: ys,pre,h=>by
  have ih:=vM hl hP ys (pre++[y]) (av h)
  rw[hP,aF (bH h),bC h,aO h (by omega),ih,List.length_append,List.length_singleton]
  show _=F (if p y=true then(pre.length:Int) else kI p ys (pre.length+1))
  by_cases hp:p y=true
  ·rw[if_pos hp,if_pos hp]
  ·rw[if_neg hp,if_neg hp]
theorem Qe {p:α→Bool} : ∀ {l:List α} {n:Nat},kI p l n = -1 → ∀ c∈l,p c=false
 | [],_,_,c,h=>by cases h
 | x :: l,n,e,c,h=>by
  unfold kI at e
  by_cases hx:p x=true
  ·rw[if_pos hx] at e
   omega
  ·rw[if_neg hx] at e
   rcases List.mem_cons.1 h with rfl | h
   ·simpa using hx
   ·exact Qe e c h
theorem Qf {p:α→Bool} : ∀ {l:List α} {n:Nat},kI p l n ≠ -1 → ∃ pre x ys,l=pre++x :: ys∧p x=true∧(∀ c∈pre,p c=false)∧kI p l n=((n+pre.length:Nat):Int)
 | [],_,e=>absurd rfl e
 | x :: l,n,e=>by
  unfold kI at e ⊢
  by_cases hx:p x=true
  ·rw[if_pos hx]
   exact⟨[],x,l,rfl,hx,(fun c h=>by cases h),rfl⟩
  ·rw[if_neg hx] at e ⊢
   obtain⟨pre,z,ys,h1,h2,h3,h4⟩:=Qf e
   refine⟨x :: pre,z,ys,by rw[h1]; rfl,h2,?_,?_⟩
   ·intro c hc
    rcases List.mem_cons.1 hc with rfl | hc
    ·simpa using hx
    ·exact h3 c hc
   ·rw[h4,List.length_cons]
    congr 1
    omega
end
section
variable {s:List ae} {r:al} {x:ByteArray} (hl:s.length≤1000000)
include hl
theorem ox : ∀(ys pre acc:List ae),s=pre++ys→acc.length+ys.length≤1000010→iu s x true (pre.length:Int) r.1 r.2.1 acc=some ((acc++pe r ys,()),())
 | [],pre,acc,h,ha=>by
  rw[qv,ax (bw h)]
  simp[pe]
 | y :: ys,pre,acc,h,ha=>by
  rw[List.length_cons] at ha
  rw[qv,aF (bH h)]
  simp only[Bool.not_true,Bool.false_eq_true,if_false,bC h]
  show(if(!bv am y.1 r)=true then _ else _)=_
  by_cases e:y.1=r
  ·rw[mS.mpr e,if_neg (by decide),aO h (by omega),ox ys _ acc (av h) (by omega),EE e]
  ·have e':bv am y.1 r=false:=by rw[Bool.eq_false_iff,ne_eq,mS]; exact e
   rw[e',if_pos (by rfl),bp (by simp only[List.length_singleton]; omega),aO h (by omega),ox ys _ _ (av h) (by simp only[List.length_append,List.length_singleton]; omega),xC e]
   simp
theorem CI : ∀(ys pre acc:List ae),s=pre++ys→acc.length+ys.length≤1000000→iu s x false (pre.length:Int) r.1 r.2.1 acc=some ((acc++vL r x ys,()),())
 | [],pre,acc,h,ha=>by
  rw[qv,ax (bw h),if_pos (by rfl),bp (by simp only[List.length_singleton,List.length_nil] at ha ⊢; omega)]
  rfl
 | y :: ys,pre,acc,h,ha=>by
  rw[List.length_cons] at ha
  rw[qv,aF (bH h),if_pos (by rfl)]
  simp only[bC h,EC,Option.bind_some]
  show(if(!ci y.1 r)=true then _ else _)=_
  unfold vL
  cases k:ci y.1 r with
  | true =>
   have e:=rJ k
   have e':bv am y.1 r=false:=by rw[Bool.eq_false_iff,ne_eq,mS]; exact e
   rw[if_neg (by decide),if_pos rfl]
   show(if(!bv am y.1 r)=true then _ else _)=_
   rw[e',if_pos (by rfl),bp (by simp only[List.length_singleton]; omega),aO h (by omega),CI ys _ _ (av h) (by simp only[List.length_append,List.length_singleton]; omega)]
   simp
  | false =>
   rw[if_pos (by decide),if_neg (by decide),bp (by simp only[List.length_singleton]; omega)]
   show(if(!bv am y.1 r)=true then _ else _)=_
   by_cases e:y.1=r
   ·rw[mS.mpr e,if_neg (by decide),aO h (by omega),ox hl ys _ _ (av h) (by simp only[List.length_append,List.length_singleton]; omega),EE e]
    simp
   ·have e':bv am y.1 r=false:=by rw[Bool.eq_false_iff,ne_eq,mS]; exact e
    rw[e',if_pos (by rfl),bp (by simp only[List.length_append,List.length_singleton]; omega),aO h (by omega),ox hl ys _ _ (av h) (by simp only[List.length_append,List.length_singleton]; omega),xC e]
    simp
theorem UB:L2 s r x=some ((nW s r x,()),()):=by
 rw[Tu]
 unfold nW
 by_cases hx:x=eS
 ·subst hx
  rw[if_pos rfl,show(ByteArray.toList eS == ByteArray.toList (⟨#[]⟩:ByteArray))=decide (eS=eS) from AV,decide_eq_true rfl]
  exact ox hl s [] [] rfl (by simp only[List.length_nil]; omega)
 ·rw[if_neg hx]
  have:(ByteArray.toList x == ByteArray.toList (⟨#[]⟩:ByteArray))=false:=by
   rw[show(ByteArray.toList x == ByteArray.toList (⟨#[]⟩:ByteArray))=decide (x=eS) from AV,decide_eq_false hx]
  rw[this]
  exact CI hl s [] [] rfl (by simp only[List.length_nil]; omega)
end
end Go.Proofs.YtnodjiikdgmeaaaGreatDoor.Abs
