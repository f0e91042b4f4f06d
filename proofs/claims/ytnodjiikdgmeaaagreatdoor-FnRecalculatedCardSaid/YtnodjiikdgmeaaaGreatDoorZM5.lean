/- Formulas that are right: what both sides ask is one thing. -/
import Derived.Test.YtnodjiikdgmeaaaGreatDoorZM4
set_option linter.unusedVariables false
set_option linter.unusedSimpArgs false
set_option linter.unusedSectionVars false
namespace Go.Proofs.YtnodjiikdgmeaaaGreatDoor.Abs
open Go
abbrev p0:bJ:=((0,0,()),false,false,())
abbrev aa.kids (x:aa):List Int:=x.2.2.2.2.2.1
def kG (op k:Int):Bool:=if op=5 then(decide (k=2) || decide (k=3)) else if cQ op 1 7=true then cQ k 1 10 else if cQ op 8 10=true then decide (k=1) else false
def kl (x:aa):Int:=(List.length x.2.2.2.2.2.1:Int)
def df (x:aa):Bool :=
 if x.1=1 then decide (x.2.1=0) && decide (x.2.2.2.1=p0) && decide (x.2.2.2.2.1=p0) && decide (kl x=0) && ao x.2.2.1 && !decide (x.2.2.1.1=0) && (!decide (x.2.2.1.1=1) || decide (0≤x.2.2.1.2.1))
 else if x.1=2 then decide (x.2.1=0) && decide (x.2.2.1=v0) && decide (x.2.2.2.2.1=p0) && decide (kl x=0) && bK x.2.2.2.1.1
 else if x.1=3 then decide (x.2.1=0) && decide (x.2.2.1=v0) && decide (kl x=0) && lw (x.2.2.2.1.1,x.2.2.2.2.1.1,())
 else if x.1=4 then decide (x.2.1=0) && decide (x.2.2.1=v0) && decide (x.2.2.2.1=p0) && decide (x.2.2.2.2.1=p0) && decide (kl x=1)
 else if x.1=5 then cQ x.2.1 1 11 && decide (x.2.2.1=v0) && decide (x.2.2.2.1=p0) && decide (x.2.2.2.2.1=p0) && decide (kl x=2)
 else if x.1=6 then kG x.2.1 (kl x) && decide (x.2.2.1=v0) && decide (x.2.2.2.1=p0) && decide (x.2.2.2.2.1=p0)
 else false
theorem VS {a b:bJ}:(bv bL a b=true)=(a=b):=propext (kD rfl)
theorem VT {a b:ab}:(bv ai a b=true)=(a=b):=propext (kD rfl)
theorem WU (a b:bJ):bv bL a b=decide (a=b):=by
 rw[Bool.eq_iff_iff,decide_eq_true_eq,VS]
theorem Dh (a b:ab):bv ai a b=decide (a=b):=by
 rw[Bool.eq_iff_iff,decide_eq_true_eq,VT]
theorem RF (op k:Int):HU op k=some ((kG op k,()),()):=by
 rw[QV]
 unfold kG cQ
 simp only[beq_iff_eq,decide_eq_true_eq,ge_iff_le,Cf]
 by_cases h:op=1∨op=2∨op=3∨op=4∨op=5∨op=6∨op=7∨op=8∨op=9∨op=10
 ·by_cases hk:1≤k <;> by_cases hk2:k=2 <;> rcases h with rfl | rfl | rfl | rfl | rfl | rfl | rfl | rfl | rfl | rfl <;> simp[hk,hk2] <;> omega
 ·have h1:op≠1:=by omega
  have h2:op≠2:=by omega
  have h3:op≠3:=by omega
  have h4:op≠4:=by omega
  have h5:op≠5:=by omega
  have h6:op≠6:=by omega
  have h7:op≠7:=by omega
  have h8:op≠8:=by omega
  have h9:op≠9:=by omega
  have h10:op≠10:=by omega
  have h11 : ¬(1≤op∧op≤7):=by omega
  have h12 : ¬(8≤op∧op≤10):=by omega
  simp only[h1,h2,h3,h4,h5,h6,h7,h8,h9,h10,h11,h12,if_false]
theorem Ck {x:aa} (h:x.2.2.1.2.2.1.size≤9223372036854775807):wq x=some ((df x,()),()):=by
 rw[Mf]
 unfold df kl
 simp only[fG h,mM,Rv,mL,RF,Option.bind_some,beq_iff_eq,bne_iff_ne,ne_eq,VS,VT,WU,Dh,Cf,v0,ge_iff_le]
 generalize (List.length x.2.2.2.2.2.1:Int)=k
 by_cases h1:x.1=1
 ·by_cases a1:x.2.1=0 <;> by_cases a2:x.2.2.2.1=p0 <;> by_cases a3:x.2.2.2.2.1=p0 <;> by_cases a4:k=0 <;> cases ov:ao x.2.2.1 <;> by_cases a5:x.2.2.1.1=0 <;> by_cases a6:x.2.2.1.1=1 <;> simp[a1,a2,a3,a4,a5,a6,h1,ov]
 by_cases h2:x.1=2
 ·by_cases a1:x.2.1=0 <;> by_cases a2:x.2.2.1=(0,0,eS,()) <;> by_cases a3:x.2.2.2.2.1=p0 <;> by_cases a4:k=0 <;> simp[a1,a2,a3,a4,h2]
 by_cases h3:x.1=3
 ·by_cases a1:x.2.1=0 <;> by_cases a2:x.2.2.1=(0,0,eS,()) <;> by_cases a4:k=0 <;> simp[a1,a2,a4,h3]
 by_cases h4:x.1=4
 ·by_cases a1:x.2.1=0 <;> by_cases a2:x.2.2.1=(0,0,eS,()) <;> by_cases a3:x.2.2.2.1=p0 <;> by_cases a4:x.2.2.2.2.1=p0 <;> simp[a1,a2,a3,a4,h4]
 by_cases h5:x.1=5
 ·cases hi:cQ x.2.1 1 11 <;> by_cases a2:x.2.2.1=(0,0,eS,()) <;> by_cases a3:x.2.2.2.1=p0 <;> by_cases a4:x.2.2.2.2.1=p0 <;> simp[a2,a3,a4,h5,hi]
 by_cases h6:x.1=6
 ·cases hi:kG x.2.1 k <;> by_cases a2:x.2.2.1=(0,0,eS,()) <;> by_cases a3:x.2.2.2.1=p0 <;> simp[a2,a3,h6,hi]
 simp[h1,h2,h3,h4,h5,h6]
theorem GY {x:aa} (h:x.2.2.1.2.2.1.size≤9223372036854775807):u2 x=some ((df x,()),()):=by
 have c1 : ∀ a:bJ,(p0=a)=(a=p0):=fun a=>propext eq_comm
 have c2 : ∀ a:ab,((0,0,eS,())=a)=(a=(0,0,eS,())):=fun a=>propext eq_comm
 rw[GN,B8,E9]
 unfold df kl kG
 simp only[eY h,yA,Rx,jK,Option.bind_some,beq_iff_eq,bne_iff_ne,ne_eq,VS,VT,WU,Dh,Cf,v0,ge_iff_le,c1,c2]
 generalize (List.length x.2.2.2.2.2.1:Int)=k
 by_cases h1:x.1=1
 ·simp only[h1,if_true]
  by_cases a1:x.2.1=0 <;> by_cases a2:x.2.2.2.1=p0 <;> by_cases a3:x.2.2.2.2.1=p0 <;> by_cases a4:k=0 <;> cases ao x.2.2.1 <;> by_cases a5:x.2.2.1.1=0 <;> by_cases a6:x.2.2.1.1=1 <;> by_cases a7:x.2.2.1.2.1 < 0 <;> have a8:(0≤x.2.2.1.2.1) = ¬x.2.2.1.2.1 < 0:=propext (by omega) <;> simp[a1,a2,a3,a4,a5,a6,a7,a8]
 by_cases h2:x.1=2
 ·have e:lw (x.2.2.2.1.1,x.2.2.2.1.1,())=bK x.2.2.2.1.1:=by
   unfold lw
   simp
  by_cases a1:x.2.1=0 <;> by_cases a2:x.2.2.1=(0,0,eS,()) <;> by_cases a3:x.2.2.2.2.1=p0 <;> by_cases a4:k=0 <;> cases hr:bK x.2.2.2.1.1 <;> simp[a1,a2,a3,a4,h2,e,hr]
 by_cases h3:x.1=3
 ·by_cases a1:x.2.1=0 <;> by_cases a2:x.2.2.1=(0,0,eS,()) <;> by_cases a4:k=0 <;> cases hr:lw (x.2.2.2.1.1,x.2.2.2.2.1.1,()) <;> simp[a1,a2,a4,h3,hr]
 by_cases h4:x.1=4
 ·by_cases a1:x.2.1=0 <;> by_cases a2:x.2.2.1=(0,0,eS,()) <;> by_cases a3:x.2.2.2.1=p0 <;> by_cases a4:x.2.2.2.2.1=p0 <;> by_cases a5:k=1 <;> simp[a1,a2,a3,a4,a5,h4]
 by_cases h5:x.1=5
 ·cases hi:cQ x.2.1 1 11 <;> by_cases a2:x.2.2.1=(0,0,eS,()) <;> by_cases a3:x.2.2.2.1=p0 <;> by_cases a4:x.2.2.2.2.1=p0 <;> by_cases a5:k=2 <;> simp[a2,a3,a4,a5,h5,hi]
 by_cases h6:x.1=6
 ·by_cases a2:x.2.2.1=(0,0,eS,()) <;> by_cases a3:x.2.2.2.1=p0 <;> by_cases a4:x.2.2.2.2.1=p0 <;> simp only[a2,a3,a4,h6,if_true,if_false,decide_true,decide_false,Bool.and_false,Bool.and_true]
  all_goals
   generalize x.2.1=op
   unfold cQ
   by_cases b1:1≤op∧op≤10
   ·by_cases b2:op=5
    ·subst b2
     by_cases b3:2≤k∧k≤3
     ·have:k=2∨k=3:=by omega
      rcases this with rfl | rfl <;> simp
     ·have : ¬k=2:=by omega
      have : ¬k=3:=by omega
      simp[b3, *]
    ·by_cases b3:8≤op
     ·have b4 : ¬(op≤7):=by omega
      have b5:op≤10:=by omega
      by_cases b6:k=1 <;> simp[b1,b2,b3,b4,b5,b6]
     ·have b4:op≤7:=by omega
      by_cases b6:1≤k∧k≤10 <;> simp[b1,b2,b3,b4,b6]
   ·have b2 : ¬op=5:=by omega
    have b3 : ¬(1≤op∧op≤7):=by omega
    have b4 : ¬(8≤op∧op≤10):=by omega
    simp[b1,b2,b3,b4]
 simp[h1,h2,h3,h4,h5,h6]
def fQ (f:List aa) (i:Int):Bool:=decide ((f.getD i.toNat aj.dflt).1=3)
def cm (f:List aa) (k:Int):aa:=f.getD k.toNat aj.dflt
def fB (c:Int→Option (Int×Nat)) (f:List aa) (call:Bool):List Int→Int→Nat→Option (Int×Nat)
 | [],cur,h=>some (cur,h+1)
 | kid :: l,cur,h=>if kid=cur - 1∧0≤kid∧(fQ f kid=true→call=true) then(c kid).bind fun p=>fB c f call l p.1 (max h p.2) else none
def dV (f:List aa):Nat→Int→Option (Int×Nat)
 | 0,_=>none
 | n+1,k=>if 0≤k then match f[k.toNat]? with
  | none=>none
  | some x=>if df x=true then fB (dV f n) f (decide (x.1=6)) x.2.2.2.2.2.1.reverse k 0 else none
  else none
def mN (f:List aa) (i:Nat) (x:aa):Prop:=df x=true ∧ ∀ k∈x.2.2.2.2.2.1,0≤k∧k < i∧(fQ f k=true→x.1=6)
theorem sZ {c:Int→Option (Int×Nat)} {f:List aa} {call:Bool} (hc : ∀ k s h,c k=some (s,h)→0≤s∧s≤k ∧ ∀ i:Nat,s≤i→(i:Int)≤k → ∃ x,f[i]? = some x∧mN f i x) :
  ∀(l:List Int) (cur:Int) (h:Nat) (s:Int) (h':Nat),0≤cur→fB c f call l cur h=some (s,h')→0≤s∧s≤cur∧h+1≤h'∧(∀ i:Nat,s≤i→(i:Int) < cur → ∃ x,f[i]? = some x∧mN f i x) ∧ ∀ k∈l,0≤k∧k < cur∧(fQ f k=true→call=true)
 | [],cur,h,s,h',h0,e=>by
  simp only[fB,Option.some.injEq,Prod.mk.injEq] at e
  obtain⟨rfl,rfl⟩:=e
  exact⟨h0,Int.le_refl _,Nat.le_refl _,fun i h1 h2=>by omega,fun k hk=>by cases hk⟩
 | kid :: l,cur,h,s,h',h0,e=>by
  simp only[fB] at e
  split at e
  ·rename_i hk
   rw[Option.bind_eq_some_iff] at e
   obtain⟨⟨t,ht⟩,e1,e2⟩:=e
   obtain⟨a1,a2,a3⟩:=hc _ _ _ e1
   obtain⟨b1,b2,b3,b4,b5⟩:=sZ hc l t (max h ht) s h' a1 e2
   refine⟨b1,by omega,by omega,fun i h1 h2 => ?_,fun k hm => ?_⟩
   ·by_cases hi:(i:Int) < t
    ·exact b4 i h1 hi
    ·exact a3 i (by omega) (by omega)
   ·rcases List.mem_cons.1 hm with rfl | hm
    ·exact⟨hk.2.1,by omega,hk.2.2⟩
    ·have:=b5 k hm
     exact⟨this.1,by omega,this.2.2⟩
  ·cases e
theorem fX (f:List aa) : ∀(n:Nat) (k s:Int) (h:Nat),dV f n k=some (s,h)→0≤s∧s≤k ∧ ∀ i:Nat,s≤i→(i:Int)≤k → ∃ x,f[i]? = some x∧mN f i x
 | 0,_,_,_,e=>by cases e
 | n+1,k,s,h,e=>by
  simp only[dV] at e
  split at e
  ·rename_i h0
   split at e
   ·cases e
   ·rename_i x hx
    split at e
    ·rename_i ho
     obtain⟨b1,b2,b3,b4,b5⟩:=sZ (fX f n) _ _ _ _ _ h0 e
     refine⟨b1,b2,fun i h1 h2 => ?_⟩
     by_cases hi:(i:Int) < k
     ·exact b4 i h1 hi
     ·have hik:i=k.toNat:=by omega
      refine⟨x,by rw[hik,hx],ho,fun k' hk' => ?_⟩
      have:=b5 k' (by simpa using hk')
      exact⟨this.1,by omega,fun ha=>by simpa using this.2.2 ha⟩
    ·cases e
  ·cases e
theorem Xo {f:List aa} {n:Nat} {k s:Int} {h:Nat} (e:dV f n k=some (s,h)):1≤h:=by
 cases n with
 | zero=>cases e
 | succ n =>
  simp only[dV] at e
  split at e
  ·rename_i h0
   split at e
   ·cases e
   ·split at e
    ·exact Nat.le_trans (by omega) (sZ (fX f n) _ _ _ _ _ h0 e).2.2.1
    ·cases e
  ·cases e
def oE (deep:Int):Option (Int×Nat)→Int
 | some (s,h)=>if deep+h≤12 then s else -1
 | none => -1
theorem kH {n:Int} (h0 : -1000000000≤n) (h1:n≤1000000000):IntKind.i64.wrap n=n:=wr (by omega) (by omega)
section
variable {f:List aa} (hl:f.length≤10000000) (hs : ∀ x∈f,x.2.2.1.2.2.1.size≤9223372036854775807)
include hl hs
theorem GZ {n:Nat} (ih : ∀(k deep:Int),0≤k→k < n→k < f.length→0≤deep→deep≤12→zR f k deep=some ((oE deep (dV f n k),()),())) {x:aa} {k:Int} (h0:0≤k) (hk:f[k.toNat]? = some x) (hkn:k≤n) (hkl:x.2.2.2.2.2.1.length≤10000000) :
  ∀(r suf:List Int) (cur:Int) (h:Nat) (deep:Int),x.2.2.2.2.2.1=r.reverse++suf→0≤cur→cur≤k→0≤deep→deep+h+1≤12→rp f k deep cur ((r.length:Int) - 1)=some ((oE deep (fB (dV f n) f (decide (x.1=6)) r cur h),()),())
 | [],suf,cur,h,deep,he,c0,c1,d0,d1=>by
  rw[Ep,ax (by simp)]
  simp only[fB,oE]
  rw[if_pos (by omega)]
 | kid :: r,suf,cur,h,deep,he,c0,c1,d0,d1=>by
  have hkl2:k < (f.length:Int):=by
   have:=(List.getElem?_eq_some_iff.1 hk).1
   omega
  have he':x.2.2.2.2.2.1=r.reverse++kid :: suf:=by rw[he]; simp
  have hlen:(((kid :: r).length:Int) - 1)=((r.reverse).length:Int):=by simp
  rw[Ep,aF (by rw[hlen]; exact nn _),ca h0 hk,hlen,bC he',kH (n:=cur - 1) (by omega) (by omega)]
  simp only[fB]
  by_cases e1:kid=cur - 1
  ·rw[if_neg (by simp[e1])]
   by_cases e2:kid < 0
   ·rw[aF e2,if_neg (by omega)]
    rfl
   ·rw[ax e2]
    have hkd:kid < (f.length:Int):=by omega
    obtain⟨y,hy⟩ : ∃ y,f[kid.toNat]? = some y:=⟨f[kid.toNat]'(by omega),List.getElem?_eq_getElem _⟩
    rw[ca (by omega) hy]
    have har:fQ f kid=decide (y.1=3):=by
     unfold fQ
     rw[List.getD_eq_getElem?_getD,hy]
     rfl
    have go:((zR f kid (IntKind.i64.wrap (deep+1))).bind fun z1=>if decide (z1.1.1 < 0)=true then some ((-1,()),()) else rp f k deep z1.1.1 (IntKind.i64.wrap (((r.reverse).length:Int) - 1)))=some ((oE deep ((dV f n kid).bind fun p=>fB (dV f n) f (decide (x.1=6)) r p.1 (max h p.2)),()),()):=by
     have hlr:(r.reverse).length≤10000000:=by
      rw[he',List.length_append] at hkl
      omega
     rw[kH (by omega) (by omega),kH (by omega) (by omega),ih kid (deep+1) (by omega) (by omega) hkd (by omega) (by omega),Option.bind_some]
     cases hc:dV f n kid with
     | none=>rfl
     | some p =>
      obtain⟨t,ht⟩:=p
      have ha:=fX f n _ _ _ hc
      by_cases hd:deep+1+ht≤12
      ·have er:oE (deep+1) (some (t,ht))=t:=if_pos hd
       simp only[er,Option.bind_some]
       rw[ax (by omega),List.length_reverse,GZ ih h0 hk hkn hkl r (kid :: suf) t (max h ht) deep he' (by omega) (by omega) d0 (by omega)]
      ·have er:oE (deep+1) (some (t,ht)) = -1:=if_neg hd
       simp only[er,Option.bind_some]
       rw[aF (by decide)]
       cases hq:fB (dV f n) f (decide (x.1=6)) r t (max h ht) with
       | none=>rfl
       | some q =>
        obtain⟨s',h'⟩:=q
        have:=(sZ (fX f n) _ _ _ _ _ (by omega) hq).2.2.1
        simp only[oE]
        rw[if_neg (by omega)]
    by_cases e3:y.1=3
    ·rw[if_pos (by simp[e3]),ca h0 hk]
     by_cases e4:x.1=6
     ·rw[if_neg (by simp[e4]),if_pos ⟨e1,by omega,fun _=>by simp[e4]⟩]
      exact go
     ·rw[if_pos (by simp[e4]),if_neg (by rw[har]; simp[e3,e4])]
      rfl
    ·rw[if_neg (by simp[e3]),if_pos ⟨e1,by omega,fun h=>by rw[har] at h; simp[e3] at h⟩]
     exact go
  ·rw[if_pos (by simpa using e1),if_neg (fun h=>e1 h.1)]
   rfl
theorem MG : ∀(n:Nat) (k deep:Int),0≤k→k < n→k < f.length→0≤deep→deep≤12→(∀ x∈f,x.2.2.2.2.2.1.length≤10000000)→zR f k deep=some ((oE deep (dV f n k),()),())
 | 0,k,deep,h0,h1,_,_,_,_=>by omega
 | n+1,k,deep,h0,h1,h2,d0,d1,hkl=>by
  obtain⟨x,hx⟩ : ∃ y,f[k.toNat]? = some y:=⟨f[k.toNat]'(by omega),List.getElem?_eq_getElem _⟩
  have hm:x∈f:=List.mem_of_getElem? hx
  rw[Vw,ax (by omega)]
  by_cases hd:deep≥12
  ·rw[aF hd]
   cases hc:dV f (n+1) k with
   | none=>rfl
   | some p =>
    obtain⟨s,h⟩:=p
    have:=Xo hc
    simp only[oE]
    rw[if_neg (by omega)]
  ·have:=hkl x hm
   rw[ax hd,ca h0 hx,GY (hs x hm),Option.bind_some,ca h0 hx,kH (by omega) (by omega)]
   simp only[dV,if_pos h0,hx]
   cases ho:df x with
   | false=>rfl
   | true =>
    simp only[Bool.not_true,Bool.false_eq_true,if_false,if_true]
    have:=GZ hl hs (n:=n) (fun k deep a b c d e=>MG n k deep a b c d e hkl) h0 hx (by omega) this x.2.2.2.2.2.1.reverse [] k 0 deep (by simp) h0 (Int.le_refl _) d0 (by omega)
    rw[List.length_reverse] at this
    exact this
def Ij:Option (Int×Nat)→Int
 | some (s,_)=>s
 | none => -1
theorem Cl {n:Nat} (A : ∀(i:Nat) (x:aa),f[i]? = some x→mN f i x) (ih : ∀(k:Int),0≤k→k < n→k < f.length→yi f k=some ((Ij (dV f n k),()),())) {x:aa} {k:Int} (h0:0≤k) (hk:f[k.toNat]? = some x) (hkn:k≤n) (hkl:x.2.2.2.2.2.1.length≤10000000) :
  ∀(r suf:List Int) (cur:Int) (h:Nat),x.2.2.2.2.2.1=r.reverse++suf→0≤cur→cur≤k→t6 f k (cur - 1) ((r.length:Int) - 1)=some ((Ij (fB (dV f n) f (decide (x.1=6)) r cur h),()),())
 | [],suf,cur,h,he,c0,c1=>by
  have hkl2:k < (f.length:Int):=by
   have:=(List.getElem?_eq_some_iff.1 hk).1
   omega
  rw[A2,ax (by simp),kH (by omega) (by omega)]
  simp only[fB,Ij]
  congr 3
  omega
 | kid :: r,suf,cur,h,he,c0,c1=>by
  have hkl2:k < (f.length:Int):=by
   have:=(List.getElem?_eq_some_iff.1 hk).1
   omega
  have he':x.2.2.2.2.2.1=r.reverse++kid :: suf:=by rw[he]; simp
  have hlen:(((kid :: r).length:Int) - 1)=((r.reverse).length:Int):=by simp
  have hmem:kid∈x.2.2.2.2.2.1:=by rw[he']; simp
  have hst:=(A _ _ hk).2 kid hmem
  rw[A2,aF (by rw[hlen]; exact nn _)]
  simp only[fB]
  by_cases e0:cur - 1 < 0
  ·rw[aF e0,if_neg (by omega)]
   rfl
  ·rw[ax e0,ca h0 hk,hlen,bC he']
   by_cases e1:kid=cur - 1
   ·have hkd:kid < (f.length:Int):=by omega
    have hlr:(r.reverse).length≤10000000:=by
     rw[he',List.length_append] at hkl
     omega
    rw[if_neg (by simp[e1]),if_pos ⟨e1,hst.1,fun ha=>by simpa using hst.2.2 ha⟩,←e1,ih kid hst.1 (by omega) hkd,Option.bind_some,kH (n:=(r.reverse.length:Int) - 1) (by omega) (by omega)]
    cases hc:dV f n kid with
    | none=>rfl
    | some p =>
     obtain⟨t,ht⟩:=p
     have ha:=fX f n _ _ _ hc
     have er:Ij (some (t,ht))=t:=rfl
     simp only[er,Option.bind_some]
     rw[ax (by omega),kH (n:=t - 1) (by omega) (by omega),List.length_reverse,Cl A ih h0 hk hkn hkl r (kid :: suf) t (max h ht) he' (by omega) (by omega)]
   ·rw[if_pos (by simpa using e1),if_neg (fun h=>e1 h.1)]
    rfl
theorem G0 (A : ∀(i:Nat) (x:aa),f[i]? = some x→mN f i x) (hkl : ∀ x∈f,x.2.2.2.2.2.1.length≤10000000) : ∀(n:Nat) (k:Int),0≤k→k < n→k < f.length→yi f k=some ((Ij (dV f n k),()),())
 | 0,k,h0,h1,_=>by omega
 | n+1,k,h0,h1,h2=>by
  obtain⟨x,hx⟩ : ∃ y,f[k.toNat]? = some y:=⟨f[k.toNat]'(by omega),List.getElem?_eq_getElem _⟩
  have hm:x∈f:=List.mem_of_getElem? hx
  have hk:=hkl x hm
  rw[QX,ca h0 hx,kH (n:=k - 1) (by omega) (by omega),kH (by omega) (by omega)]
  simp only[dV,if_pos h0,hx,(A _ _ hx).1,if_true]
  have:=Cl hl hs (n:=n) A (G0 A hkl n) h0 hx (by omega) hk x.2.2.2.2.2.1.reverse [] k 0 (by simp) h0 (Int.le_refl _)
  rw[List.length_reverse] at this
  exact this
def nM (c:Int→Option (Int×Nat)):List Int→Nat
 | []=>0
 | k :: l=>max (((c k).map (·.2)).getD 0) (nM c l)
omit hl hs in
theorem Fj (c:Int→Option (Int×Nat)) (k:Int) : ∀ l,nM c (l++[k])=max (nM c l) (((c k).map (·.2)).getD 0)
 | []=>by simp[nM]
 | y :: l=>by
  simp only[List.cons_append,nM,Fj c k l]
  omega
omit hl hs in
theorem PM (c:Int→Option (Int×Nat)) : ∀ l,nM c l.reverse=nM c l
 | []=>rfl
 | y :: l=>by
  rw[List.reverse_cons,Fj,PM c l]
  simp only[nM]
  omega
omit hl hs in
theorem JN {c:Int→Option (Int×Nat)} {call:Bool} : ∀(l:List Int) (cur:Int) (h:Nat) (s:Int) (h':Nat),fB c f call l cur h=some (s,h')→h'=max h (nM c l)+1 ∧ ∀ k∈l,∃ p,c k=some p
 | [],cur,h,s,h',e=>by
  simp only[fB,Option.some.injEq,Prod.mk.injEq] at e
  exact⟨by simp only[nM]; omega,fun k hk=>by cases hk⟩
 | kid :: l,cur,h,s,h',e=>by
  simp only[fB] at e
  split at e
  ·rw[Option.bind_eq_some_iff] at e
   obtain⟨⟨t,ht⟩,e1,e2⟩:=e
   obtain⟨b1,b2⟩:=JN l t (max h ht) s h' e2
   refine⟨?_,fun k hk => ?_⟩
   ·simp only[nM,e1,Option.map_some,Option.getD_some]
    omega
   ·rcases List.mem_cons.1 hk with rfl | hk
    ·exact⟨_,e1⟩
    ·exact b2 k hk
  ·cases e
theorem Cm {n:Nat} {c:Int→Option (Int×Nat)} (ih : ∀(k:Int) (s:Int) (h:Nat),k < n→c k=some (s,h)→yj f k=some (((h:Int),()),())) {x:aa} {k:Int} (h0:0≤k) (hk:f[k.toNat]? = some x) (hkn:k≤n) (hkl:x.2.2.2.2.2.1.length≤10000000) (hall : ∀ k'∈x.2.2.2.2.2.1,(∃ p,c k'=some p)∧k' < k) (hb:nM c x.2.2.2.2.2.1≤10000000) :
  ∀(ys pre:List Int),x.2.2.2.2.2.1=pre++ys→t7 f k (nM c pre:Int) (pre.length:Int)=some ((((nM c x.2.2.2.2.2.1+1:Nat):Int),()),())
 | [],pre,he=>by
  have:pre=x.2.2.2.2.2.1:=by rw[he]; simp
  rw[A3,ca h0 hk,ax (bw he),this,kH (by omega) (by omega)]
  rfl
 | y :: ys,pre,he=>by
  obtain⟨⟨⟨s,h⟩,hc⟩,hlt⟩:=hall y (by rw[he]; simp)
  rw[A3,ca h0 hk,aF (bH he),ca h0 hk,bC he,ih y s h (by omega) hc,Option.bind_some,aO he (by omega)]
  have:(if((nM c pre:Nat):Int) < (h:Int) then(h:Int) else((nM c pre:Nat):Int))=(nM c (pre++[y]):Int):=by
   rw[Fj,hc]
   simp only[Option.map_some,Option.getD_some]
   split <;> omega
  rw[this]
  exact Cm ih h0 hk hkn hkl hall hb ys _ (av he)
theorem Aq (hkl : ∀ x∈f,x.2.2.2.2.2.1.length≤10000000) : ∀(n:Nat) (k s:Int) (h:Nat),dV f n k=some (s,h)→n≤10000000→h≤n∧yj f k=some (((h:Int),()),())
 | 0,_,_,_,e,_=>by cases e
 | n+1,k,s,h,e,hn=>by
  have hall:=fX f _ _ _ _ e
  simp only[dV] at e
  split at e
  ·rename_i h0
   split at e
   ·cases e
   ·rename_i x hx
    split at e
    ·have hm:x∈f:=List.mem_of_getElem? hx
     obtain⟨b1,b2⟩:=JN _ _ _ _ _ e
     have hst:=sZ (fX f n) _ _ _ _ _ h0 e
     have hhm:nM (dV f n) x.2.2.2.2.2.1≤n:=by
      have : ∀ l:List Int,nM (dV f n) l≤n:=by
       intro l
       induction l with
       | nil=>exact Nat.zero_le _
       | cons y l ih =>
        simp only[nM]
        cases hc:dV f n y with
        | none=>simpa using ih
        | some p =>
         have:=(Aq hkl n y p.1 p.2 hc (by omega)).1
         simp only[Option.map_some,Option.getD_some]
         omega
      exact this _
     rw[PM] at b1
     refine⟨by omega,?_⟩
     rw[QY]
     have hk2 : ∀ k'∈x.2.2.2.2.2.1,(∃ p,dV f n k'=some p)∧k' < k:=fun k' hk'=>⟨b2 k' (by simpa using hk'),(hst.2.2.2.2 k' (by simpa using hk')).2.1⟩
     have:=Cm hl hs (n:=k.toNat) (c:=dV f n) (fun k' s' h' _ hc=>(Aq hkl n k' s' h' hc (by omega)).2) h0 hx (by omega) (hkl x hm) hk2 (by omega) x.2.2.2.2.2.1 [] rfl
     rw[b1]
     have hz:max 0 (nM (dV f n) x.2.2.2.2.2.1)=nM (dV f n) x.2.2.2.2.2.1:=by omega
     rw[hz]
     exact this
    ·cases e
  ·cases e
end
def s4 (f:List aa):Bool:=match dV f f.length ((f.length:Int) - 1) with
 | some (s,h)=>decide (s=0) && (!fQ f ((f.length:Int) - 1) && decide ((h:Int)≤12))
 | none=>false
def eH (f:List aa):Bool:=cQ (f.length:Int) 1 60 && s4 f
theorem la {f:List aa} (h:eH f=true) (i:Nat) (x:aa) (hx:f[i]? = some x):mN f i x:=by
 unfold eH s4 at h
 simp only[Bool.and_eq_true] at h
 obtain⟨h1,h2⟩:=h
 have h1:=bu.1 h1
 cases hc:dV f f.length ((f.length:Int) - 1) with
 | none=>rw[hc] at h2; cases h2
 | some p =>
  obtain⟨s,d⟩:=p
  rw[hc] at h2
  simp only[Bool.and_eq_true,decide_eq_true_eq] at h2
  have hl:=(List.getElem?_eq_some_iff.1 hx).1
  obtain⟨y,hy,hs⟩:=(fX f _ _ _ _ hc).2.2 i (by omega) (by omega)
  rw[hx] at hy
  rw[Option.some.inj hy]
  exact hs
section
variable {f:List aa} (hl:f.length≤10000000) (hs : ∀ x∈f,x.2.2.1.2.2.1.size≤9223372036854775807) (hkl : ∀ x∈f,x.2.2.2.2.2.1.length≤10000000)
include hl hs hkl
theorem jx:qd f=some ((eH f,()),()):=by
 rw[KH]
 unfold eH
 simp only[jK,Option.bind_some]
 cases hb:cQ (f.length:Int) 1 60 with
 | false=>rfl
 | true =>
  have hb:=bu.1 hb
  obtain⟨x,hx⟩ : ∃ y,f[((f.length:Int) - 1).toNat]? = some y:=⟨f[((f.length:Int) - 1).toNat]'(by omega),List.getElem?_eq_getElem _⟩
  have har:fQ f ((f.length:Int) - 1)=decide (x.1=3):=by
   unfold fQ
   rw[List.getD_eq_getElem?_getD,hx]
   rfl
  have hfr:=MG hl hs f.length ((f.length:Int) - 1) 0 (by omega) (by omega) (by omega) (by decide) (by decide) hkl
  simp only[if_true]
  rw[kH (by omega) (by omega),ca (by omega) hx,hfr]
  unfold s4
  rw[har]
  cases hc:dV f f.length ((f.length:Int) - 1) with
  | none=>by_cases h3:x.1=3 <;> simp[h3,oE]
  | some p =>
   obtain⟨s,h⟩:=p
   have hp:=(fX f _ _ _ _ hc).1
   by_cases h3:x.1=3
   ·simp[h3]
   ·by_cases h4:(h:Int)≤12
    ·simp[h3,oE,h4,Cf]
    ·simp[h3,oE,h4]
theorem w8 {x:aa} {i:Nat} (hi:f[i]? = some x) (hil:i≤10000000) : ∀(ys pre:List Int),x.2.2.2.2.2.1=pre++ys →
  lr f (i:Int) (pre.length:Int)=if(ys.all fun k=>cQ k 0 ((i:Int) - 1) && (!fQ f k || decide (x.1=6)))=true then fb f ((i+1:Nat):Int) else some ((false,()),())
 | [],pre,he=>by
  rw[vt,ca (nn _) (by simpa using hi),ax (bw he),kH (by omega) (by omega)]
  simp
 | y :: ys,pre,he=>by
  have hm:x∈f:=List.mem_of_getElem? hi
  have:=hkl x hm
  rw[vt,ca (nn _) (by simpa using hi),aF (bH he),ca (nn _) (by simpa using hi),bC he,mL,Option.bind_some,kH (n:=(i:Int) - 1) (by omega) (by omega),aO he (by omega)]
  have ih:=w8 hi hil ys _ (av he)
  have hlt:=(List.getElem?_eq_some_iff.1 hi).1
  cases hy:cQ y 0 ((i:Int) - 1) with
  | false=>simp[hy]
  | true =>
   have hy2:=bu.1 hy
   obtain⟨z,hz⟩ : ∃ z,f[y.toNat]? = some z:=⟨f[y.toNat]'(by omega),List.getElem?_eq_getElem _⟩
   have har:fQ f y=decide (z.1=3):=by
    unfold fQ
    rw[List.getD_eq_getElem?_getD,hz]
    rfl
   simp only[Bool.not_true,Bool.false_eq_true,if_false]
   rw[ca (by omega) hz]
   by_cases h3:z.1=3
   ·rw[if_pos (by simp[h3]),ca (nn _) (by simpa using hi)]
    by_cases h6:x.1=6
    ·rw[if_neg (by simp[h6]),ih]
     simp[hy,har,h6]
    ·rw[if_pos (by simp[h6])]
     simp[hy,har,h3,h6]
   ·rw[if_neg (by simp[h3]),ih]
    simp[hy,har,h3]
def nw (f:List aa) (i:Nat):Bool:=match f[i]? with
 | some x=>df x && x.2.2.2.2.2.1.all fun k=>cQ k 0 ((i:Int) - 1) && (!fQ f k || decide (x.1=6))
 | none=>true
omit hl hs hkl in
theorem Eu {i:Nat} {x:aa} (hx:f[i]? = some x):nw f i=true↔mN f i x:=by
 unfold nw mN
 rw[hx]
 simp only[Bool.and_eq_true,List.all_eq_true,bu,Bool.or_eq_true,Bool.not_eq_true',decide_eq_true_eq]
 constructor
 ·rintro⟨h1,h2⟩
  refine⟨h1,fun k hk => ?_⟩
  obtain⟨⟨a,b⟩,c⟩:=h2 k hk
  refine⟨a,by omega,fun ha => ?_⟩
  rcases c with c | c
  ·rw[c] at ha
   cases ha
  ·exact c
 ·rintro⟨h1,h2⟩
  refine⟨h1,fun k hk => ?_⟩
  obtain⟨a,b,c⟩:=h2 k hk
  refine⟨⟨a,by omega⟩,?_⟩
  cases ha:fQ f k with
  | true=>exact .inr (c ha)
  | false=>exact .inl rfl
theorem G1 (hne:1≤f.length) (A : ∀(i:Nat) (x:aa),f[i]? = some x→mN f i x):fb f (f.length:Int)=some ((s4 f,()),()):=by
 obtain⟨x,hx⟩ : ∃ y,f[((f.length:Int) - 1).toNat]? = some y:=⟨f[((f.length:Int) - 1).toNat]'(by omega),List.getElem?_eq_getElem _⟩
 have har:fQ f ((f.length:Int) - 1)=decide (x.1=3):=by
  unfold fQ
  rw[List.getD_eq_getElem?_getD,hx]
  rfl
 rw[vo,ax (Int.lt_irrefl _),kH (by omega) (by omega),G0 hl hs A hkl f.length _ (by omega) (by omega) (by omega),Option.bind_some,ca (by omega) hx]
 unfold s4
 rw[har]
 cases hc:dV f f.length ((f.length:Int) - 1) with
 | none=>rfl
 | some p =>
  obtain⟨s,h⟩:=p
  have er:Ij (some (s,h))=s:=rfl
  simp only[er]
  by_cases h0:s=0
  ·by_cases h3:x.1=3
   ·simp[h0,h3]
   ·rw[if_pos (by simp[h0]),if_pos (by simp[h3]),(Aq hl hs hkl _ _ _ _ hc hl).2]
    simp[h0,h3]
  ·rw[if_neg (by simp[h0])]
   simp[h0]
theorem G2 {i:Nat} (hi:i < f.length):fb f (i:Int)=if nw f i=true then fb f ((i+1:Nat):Int) else some ((false,()),()):=by
 obtain⟨x,hx⟩ : ∃ y,f[i]? = some y:=⟨f[i],List.getElem?_eq_getElem _⟩
 have hm:x∈f:=List.mem_of_getElem? hx
 rw[vo,aF (by omega),ca (nn _) (by simpa using hx),Ck (hs x hm),Option.bind_some]
 have es:nw f i=(df x && x.2.2.2.2.2.1.all fun k=>cQ k 0 ((i:Int) - 1) && (!fQ f k || decide (x.1=6))):=by
  unfold nw
  rw[hx]
 rw[es]
 cases ho:df x with
 | false=>simp
 | true =>
  have:=w8 hl hs hkl hx (by omega) x.2.2.2.2.2.1 [] rfl
  simp only[Bool.not_true,Bool.false_eq_true,if_false,Bool.true_and]
  exact this
open Classical in
theorem vw : ∀(n i:Nat),i+n=f.length→fb f (i:Int)=if(∀ j,i≤j→j < f.length→nw f j=true) then fb f (f.length:Int) else some ((false,()),())
 | 0,i,h=>by
  have:i=f.length:=by omega
  rw[this,if_pos (fun j h1 h2=>by omega)]
 | n+1,i,h=>by
  rw[G2 hl hs hkl (by omega),vw n (i+1) (by omega)]
  by_cases h1:nw f i=true
  ·rw[if_pos h1]
   by_cases h2 : ∀ j,i+1≤j→j < f.length→nw f j=true
   ·rw[if_pos h2,if_pos (fun j a b=>by
     by_cases hj:j=i
     ·rw[hj]; exact h1
     ·exact h2 j (by omega) b)]
   ·rw[if_neg h2,if_neg (fun h3=>h2 fun j a b=>h3 j (by omega) b)]
  ·rw[if_neg h1,if_neg (fun h3=>h1 (h3 i (Nat.le_refl _) (by omega)))]
theorem lx:ng f=some ((eH f,()),()):=by
 rw[Kz]
 by_cases h1:(f.length:Int) < 1
 ·rw[aF h1]
  have:cQ (f.length:Int) 1 60=false:=by simp[cQ]; omega
  simp[eH,this]
 ·rw[ax h1]
  by_cases h2:(f.length:Int) > 60
  ·rw[aF h2]
   have:cQ (f.length:Int) 1 60=false:=by simp[cQ]; omega
   simp[eH,this]
  ·have hb:cQ (f.length:Int) 1 60=true:=bu.2 (by omega)
   rw[ax h2,show(0:Int)=((0:Nat):Int) from rfl,vw hl hs hkl f.length 0 (by omega)]
   by_cases A : ∀ j,0≤j→j < f.length→nw f j=true
   ·rw[if_pos A,G1 hl hs hkl (by omega) fun i x hx=>(Eu hx).1 (A i (Nat.zero_le _) (List.getElem?_eq_some_iff.1 hx).1)]
    simp[eH,hb]
   ·rw[if_neg A]
    have:eH f=false:=by
     cases ho:eH f with
     | false=>rfl
     | true =>
      refine absurd (fun j _ hj => ?_) A
      have hx:f[j]? = some f[j]:=List.getElem?_eq_getElem _
      exact(Eu hx).2 (la ho j _ hx)
    rw[this]
end
abbrev ag:=List UInt8
abbrev lb (s:ByteArray):ag:=s.data.toList
abbrev ba (l:ag):ByteArray:=⟨l.toArray⟩
theorem dP (l:ag):lb (ba l)=l:=by simp
theorem eO (s:ByteArray):ba (lb s)=s:=by cases s; simp
theorem ay (l:ag):(ba l).size=l.length:=by
 show(ba l).data.size=_
 simp
theorem jy (s:ByteArray):(lb s).length=s.size:=by
 rw[Array.length_toList]
 rfl
theorem Cn {a b:ag} (h:ba a=ba b):a=b:=by
 rw[←dP a,h,dP]
theorem Y0 {a b:ag}:(ba a=ba b)=(a=b):=propext ⟨Cn,fun h=>by rw[h]⟩
theorem RG (l:ag) (i j:Nat):(ba l).extract i j=ba ((l.take j).drop i):=by
 apply yT
 simp[ByteArray.data_extract,List.extract_eq_take_drop,List.drop_take]
theorem oq (a b:ag):ba a++ba b=ba (a++b):=by
 apply yT
 simp
theorem dL {a b:ag}:(ByteArray.toList (ba a) == ByteArray.toList (ba b))=decide (a=b):=by
 rw[AV,Bool.eq_iff_iff,decide_eq_true_eq,decide_eq_true_eq,Y0]
theorem TS (l:ag):nK (ba l)=l.map fun b=>(b.toNat:Int):=by simp[nK]
theorem ly {β:Type} {l pre ys:ag} {y:UInt8} {f:Int→Option β} (h:l=pre++y :: ys):eF (ba l) (pre.length:Int) f=f (y.toNat:Int):=by
 have:=B6 (β:=β) (s:=ba l) (pre:=pre.map fun b=>(b.toNat:Int)) (ys:=ys.map fun b=>(b.toNat:Int)) (y:=(y.toNat:Int)) (f:=f) (by rw[TS,h]; simp)
 rw[List.length_map] at this
 exact this
theorem ot {β:Type} {y:UInt8} {ys:ag} {f:Int→Option β}:eF (ba (y :: ys)) 0 f=f (y.toNat:Int):=ly (pre:=[]) rfl
theorem G3 {β:Type} {l:ag} {n:Nat} {f:ByteArray→Option β} (h:n≤l.length):D2 (ba l) (n:Int) f=f (ba (l.take n)):=by
 rw[Yf (nn _) (by rw[ay]; omega),RG]
 simp
theorem fR {β:Type} {l:ag} {n:Nat} {f:ByteArray→Option β} (h:n≤l.length):iT (ba l) (n:Int) f=f (ba (l.drop n)):=by
 rw[Yg (nn _) (by rw[ay]; omega),RG,ay]
 simp
theorem yV {β:Type} {l:ag} {i j:Nat} {f:ByteArray→Option β} (h:i≤j) (hj:j≤l.length):wb (ba l) (i:Int) (j:Int) f=f (ba ((l.take j).drop i)):=by
 rw[Yh (nn _) (by omega) (by rw[ay]; omega),RG]
 simp
theorem bF {β:Type} {a b:ag} {f:ByteArray→Option β} (h:a.length+b.length≤9223372036854775807):cats (ba a) (ba b) f=f (ba (a++b)):=by
 rw[lL (by rw[ay,ay]; exact h),oq]
theorem xw (s p:ag) (hs:s.length≤9223372036854775807):ft (ba s) (ba p)=some ((p.isPrefixOf s,()),()):=by
 rw[vg,ay,ay]
 by_cases h:p.length≤s.length
 ·rw[aF (by omega),G3 h,dL]
  congr 3
  rw[Bool.eq_iff_iff,decide_eq_true_eq,List.isPrefixOf_iff_prefix,List.prefix_iff_eq_take]
  exact eq_comm
 ·rw[ax (by omega)]
  congr 3
  symm
  rw[Bool.eq_false_iff]
  intro hp
  exact h (List.isPrefixOf_iff_prefix.1 hp).length_le
theorem s5 (s p:ag) (hs:s.length≤9223372036854775807):eJ (ba s) (ba p)=some ((p.isPrefixOf s,()),()):=by
 rw[Ab,xw s p hs]
 rfl
theorem s6 (s p:ag) (hs:s.length≤9223372036854775807):cu (ba s) (ba p)=some ((ba (if p.isPrefixOf s=true then s.drop p.length else s),p.isPrefixOf s,()),()):=by
 rw[Aa,vh,xw s p hs]
 simp only[Option.bind_some]
 cases hp:p.isPrefixOf s with
 | false=>rfl
 | true =>
  have:=(List.isPrefixOf_iff_prefix.1 hp).length_le
  simp only[Bool.not_true,Bool.false_eq_true,if_false,if_true,ay]
  rw[fR this]
  rfl
theorem xx (s c:ag) (hc:uU (ba c)=true):iV (ba s) (ba c)=some ((ba (s.dropWhile (c.contains ·)),()),()):=by
 rw[Bi]
 show(if uU (ba c)=true then some (((⟨(Lib.trimLeftS (lb (ba s)) (lb (ba c))).toArray⟩:ByteArray),()),()) else none)=_
 rw[if_pos hc,dP,dP]
 rfl
theorem Co {α:Type} (p:α→Bool) (l:List α):l.take (l.length - (l.dropWhile p).length)=l.takeWhile p∧l.drop (l.length - (l.dropWhile p).length)=l.dropWhile p∧(l.dropWhile p).length≤l.length:=by
 have h:=List.takeWhile_append_dropWhile (p:=p) (l:=l)
 have hl:(l.takeWhile p).length+(l.dropWhile p).length=l.length:=by rw[←List.length_append,h]
 have e:l.length - (l.dropWhile p).length=(l.takeWhile p).length:=by omega
 refine⟨?_,?_,by omega⟩
 ·rw[e]
  have:=List.take_left' (l₁:=l.takeWhile p) (l₂:=l.dropWhile p) rfl
  rw[h] at this
  exact this
 ·rw[e]
  have:=List.drop_left' (l₁:=l.takeWhile p) (l₂:=l.dropWhile p) rfl
  rw[h] at this
  exact this
theorem gW (c:UInt8) (l:ag) (a:UInt8):([a]:ag).isPrefixOf (c :: l)=decide (c=a):=by
 show(a == c && ([]:ag).isPrefixOf l)=_
 rw[show([]:ag).isPrefixOf l=true by cases l <;> rfl,Bool.and_true,Bool.eq_iff_iff,beq_iff_eq,decide_eq_true_eq]
 exact eq_comm
theorem Fk (c:UInt8) (t:ag):([c]:ag).isPrefixOf t=decide (t.head? = some c):=by
 cases t with
 | nil=>rfl
 | cons y t=>rw[gW]; simp
theorem Fl (y:UInt8) (t:ag) (a c:UInt8):([a,c]:ag).isPrefixOf (y :: t)=(decide (y=a) && decide (t.head? = some c)):=by
 show(a == y && ([c]:ag).isPrefixOf t)=_
 rw[Fk]
 congr 1
 rw[Bool.eq_iff_iff,beq_iff_eq,decide_eq_true_eq]
 exact eq_comm
theorem Fm (y c:UInt8) {n:Int} (hn:(c.toNat:Int)=n):((y.toNat:Int) == n)=decide (y=c):=by
 rw[Bool.eq_iff_iff,beq_iff_eq,decide_eq_true_eq,←hn]
 constructor
 ·intro e
  apply UInt8.toNat_inj.1
  omega
 ·intro e
  rw[e]
theorem qB {p:UInt8→Prop} [DecidablePred p] (h : ∀ n:Fin 256,p (UInt8.ofNat n.val)) (c:UInt8):p c:=by
 have:=h ⟨c.toNat,c.toNat_lt⟩
 simpa using this
def eZ (c:UInt8):Bool:=decide (65≤c.toNat) && decide (c.toNat≤90)
def dx (c:UInt8):Bool:=decide (48≤c.toNat) && decide (c.toNat≤57)
def bA (a:Nat) (l:ag):Nat:=l.foldl (fun a c=>a*10+(c.toNat - 48)) a
theorem Cp (a:Nat) (l:ag) (c:UInt8):bA a (l++[c])=bA a l*10+(c.toNat - 48):=by simp[bA]
theorem G4 {u:Nat} (h:u < 10):Lib.decDigits u=[UInt8.ofNat (48+u)]:=Lib.decDigits_one h
theorem MH {u:Nat} (h : ¬u < 10):Lib.decDigits u=Lib.decDigits (u / 10)++[UInt8.ofNat (48+u % 10)]:=by
 rw[Lib.decDigits,dif_neg h]
theorem RH {x:Nat} (h:x < 10):(UInt8.ofNat (48+x)).toNat=48+x:=by
 rw[UInt8.toNat_ofNat']
 omega
theorem TT {m x:ag} (h:m≠[]):(m++x).head? = m.head? := by
 cases m with
 | nil=>exact absurd rfl h
 | cons a m=>rfl
def j6 (l:ag):Bool:=l.all dx && decide (1≤l.length) && (decide (l.length=1) || !decide (l.head? = some 48))
theorem MI : ∀(n u:Nat),u≤n→bA 0 (Lib.decDigits u)=u∧j6 (Lib.decDigits u)=true∧(10≤u→2≤(Lib.decDigits u).length)∧(1≤u→(Lib.decDigits u).head? ≠ some 48)
 | n,u,hn=>by
  by_cases h:u < 10
  ·rw[G4 h]
   have e:=RH h
   refine⟨by simp[bA]; omega,?_,fun h2=>by omega,fun h1 h2 => ?_⟩
   ·simp only[j6,dx,List.all_cons,List.all_nil,e]
    simp
    omega
   ·simp only[List.head?_cons,Option.some.injEq] at h2
    rw[h2] at e
    have:(48:UInt8).toNat=48:=rfl
    omega
  ·cases n with
   | zero=>omega
   | succ n =>
    obtain⟨h1,h2,h3,h4⟩:=MI n (u / 10) (by omega)
    rw[MH h,Cp,h1,RH (Nat.mod_lt _ (by decide))]
    have h4:=h4 (by omega)
    simp only[j6,Bool.and_eq_true,decide_eq_true_eq] at h2
    obtain⟨⟨k1,k2⟩,k3⟩:=h2
    have hne:Lib.decDigits (u / 10)≠[]:=by
     intro e
     rw[e] at k2
     simp at k2
    have hh:(Lib.decDigits (u / 10)++[UInt8.ofNat (48+u % 10)]).head? ≠ some 48:=by
     rw[TT hne]
     exact h4
    refine⟨by omega,?_,fun _=>by rw[List.length_append,List.length_singleton]; omega,fun _=>hh⟩
    simp only[j6,List.all_append,k1,List.all_cons,List.all_nil,dx,RH (Nat.mod_lt u (show 0 < 10 by decide)),Bool.and_eq_true,Bool.or_eq_true,decide_eq_true_eq]
    refine⟨⟨by simp; omega,by simp⟩,.inr (by simpa using hh)⟩
theorem rq (u:Nat):bA 0 (Lib.decDigits u)=u:=(MI u u (Nat.le_refl _)).1
theorem rs (u:Nat):j6 (Lib.decDigits u)=true:=(MI u u (Nat.le_refl _)).2.1
theorem PN {c:UInt8} (h:dx c=true):UInt8.ofNat (48+(c.toNat - 48))=c:=by
 simp only[dx,Bool.and_eq_true,decide_eq_true_eq] at h
 have:48+(c.toNat - 48)=c.toNat:=by omega
 rw[this]
 simp
theorem PO : ∀(l:ag),j6 l=true→Lib.decDigits (bA 0 l)=l∧(l.head? ≠ some 48→1≤bA 0 l):=by
 intro l
 induction hn:l.length using Nat.strongRecOn generalizing l with
 | ind n ih =>
  intro h
  rcases List.eq_nil_or_concat l with rfl | ⟨m,c,rfl⟩
  ·simp[j6] at h
  ·rw[List.concat_eq_append] at *
   simp only[j6,Bool.and_eq_true,Bool.or_eq_true,decide_eq_true_eq,List.all_append,List.all_cons,List.all_nil,Bool.and_true] at h
   obtain⟨⟨⟨k1,k0⟩,k2⟩,k3⟩:=h
   have kd:48≤c.toNat∧c.toNat≤57:=by simpa[dx] using k0
   rw[Cp]
   by_cases hm:m=[]
   ·subst hm
    have e:bA 0 []*10+(c.toNat - 48)=c.toNat - 48:=by simp[bA]
    rw[e,G4 (by omega),PN k0]
    refine⟨rfl,fun hh => ?_⟩
    have:c.toNat≠48:=by
     intro e
     apply hh
     simp only[List.nil_append,List.head?_cons]
     congr 1
     exact UInt8.toNat_inj.1 e
    omega
   ·have hm1:1≤m.length:=List.length_pos_iff.2 hm
    have hh:(m++[c]).head? = m.head? := TT hm
    have k4:m.head? ≠ some 48:=by
     rcases k3 with k3 | k3
     ·rw[List.length_append,List.length_singleton] at k3
      omega
     ·rw[hh] at k3
      simpa using k3
    obtain⟨i1,i2⟩:=ih m.length (by rw[←hn,List.length_append,List.length_singleton]; omega) m rfl (by
     simp only[j6,Bool.and_eq_true,Bool.or_eq_true,decide_eq_true_eq]
     exact⟨⟨k1,hm1⟩,.inr (by simpa using k4)⟩)
    have i2:=i2 k4
    refine⟨?_,fun _=>by omega⟩
    rw[MH (by omega)]
    have e1:(bA 0 m*10+(c.toNat - 48)) / 10=bA 0 m:=by omega
    have e2:(bA 0 m*10+(c.toNat - 48)) % 10=c.toNat - 48:=by omega
    rw[e1,e2,i1,PN k0]
theorem mO (u:Nat):dr (u:Int)=ba (Lib.decDigits u):=pz u
theorem Di : ∀(l:ag) (a:Nat),l.all dx=true→bA a l < (a+1)*10 ^ l.length
 | [],a,_=>by simp[bA]
 | c :: l,a,h=>by
  simp only[List.all_cons,Bool.and_eq_true] at h
  have kd:48≤c.toNat∧c.toNat≤57:=by simpa[dx] using h.1
  have:=Di l (a*10+(c.toNat - 48)) h.2
  show bA (a*10+(c.toNat - 48)) l < _
  refine Nat.lt_of_lt_of_le this ?_
  rw[List.length_cons,Nat.pow_succ]
  have:a*10+(c.toNat - 48)+1≤(a+1)*10:=by omega
  calc (a*10+(c.toNat - 48)+1)*10 ^ l.length≤((a+1)*10)*10 ^ l.length:=Nat.mul_le_mul_right _ this
   _=(a+1)*(10 ^ l.length*10):=by rw[Nat.mul_assoc,Nat.mul_comm 10]
inductive dh {α:Type} (L:α→List α):α→α→Prop
 | one {i j:α} (h:j∈L i):dh L i j
 | more {i j k:α} (h:dh L i j) (m:k∈L j):dh L i k
theorem dh.trans {α:Type} {L:α→List α} {i j k:α} (h:dh L i j) (m:dh L j k):dh L i k:=by
 induction m with
 | one e=>exact .more h e
 | more _ e ih=>exact .more ih e
theorem dh.head {α:Type} {L:α→List α} {i j k:α} (h:j∈L i) (m:dh L j k):dh L i k:=dh.trans (.one h) m
theorem dh.inN {α:Type} {L:α→List α} {N:List α} (hN : ∀ i,∀ k∈L i,k∈N) {i j:α} (h:dh L i j):j∈N:=by
 cases h with
 | one e=>exact hN _ _ e
 | more _ e=>exact hN _ _ e
theorem dh.closed {α:Type} {L:α→List α} {Q:α→Prop} {i:α} (h0 : ∀ k∈L i,Q k) (hc : ∀ j,Q j → ∀ k∈L j,Q k) {j:α} (h:dh L i j):Q j:=by
 induction h with
 | one e=>exact h0 _ e
 | more _ e ih=>exact hc _ ih _ e
section
variable {α:Type} {L:α→List α} {N:List α}
open Classical in
noncomputable def tw (L:α→List α) (N:List α) (i:α):Nat:=(N.filter fun j=>decide (dh L i j)).length
open Classical in
theorem yW (hN : ∀ i,∀ k∈L i,k∈N) {i k:α} (hk:k∈L i) (hc : ¬dh L k k):tw L N k < tw L N i:=by
 unfold tw
 refine v7 (fun y _ hy => ?_) ⟨k,hN i k hk,decide_eq_true (.one hk),decide_eq_false hc⟩
 exact decide_eq_true (dh.head hk (of_decide_eq_true hy))
theorem Xp {V:Type} (hN : ∀ i,∀ k∈L i,k∈N) {leaf:α→Prop} {step:α→(α→V)→V} (hstep : ∀ i f g,(∀ k∈L i,f k=g k)→step i f=step i g)
  {F G:α→V} (h0 : ∀ i∈N,leaf i→F i=G i) (h1 : ∀ i∈N,¬leaf i → ¬dh L i i∧F i=step i F∧G i=step i G) : ∀ i∈N,F i=G i:=by
 have key : ∀(n:Nat) (i:α),tw L N i≤n→i∈N→F i=G i:=by
  intro n
  induction n with
  | zero =>
   intro i hc hi
   by_cases hl:leaf i
   ·exact h0 i hi hl
   ·obtain⟨a,b,c⟩:=h1 i hi hl
    rw[b,c]
    refine hstep i F G fun k hk => ?_
    by_cases hl':leaf k
    ·exact h0 k (hN i k hk) hl'
    ·have:=yW hN hk (h1 k (hN i k hk) hl').1
     omega
  | succ n ih =>
   intro i hc hi
   by_cases hl:leaf i
   ·exact h0 i hi hl
   ·obtain⟨a,b,c⟩:=h1 i hi hl
    rw[b,c]
    refine hstep i F G fun k hk => ?_
    by_cases hl':leaf k
    ·exact h0 k (hN i k hk) hl'
    ·have:=yW hN hk (h1 k (hN i k hk) hl').1
     exact ih k (by omega) (hN i k hk)
 exact fun i hi=>key _ i (Nat.le_refl _) hi
theorem VU (hN : ∀ i,∀ k∈L i,k∈N) {l:List α} (hl:l≠[]) (hc : ∀ i∈l,¬dh L i i) : ∃ i∈l,∀ k∈L i,k ∉ l:=by
 have key : ∀(n:Nat) (i:α),i∈l→tw L N i≤n → ∃ i∈l,∀ k∈L i,k ∉ l:=by
  intro n
  induction n with
  | zero =>
   intro i hi hn
   refine⟨i,hi,fun k hk hkl => ?_⟩
   have:=yW hN hk (hc k hkl)
   omega
  | succ n ih =>
   intro i hi hn
   by_cases h : ∀ k∈L i,k ∉ l
   ·exact⟨i,hi,h⟩
   ·have : ∃ k,k∈L i∧k∈l:=by
     refine Classical.byContradiction fun hh=>h fun k hk hkl=>hh ⟨k,hk,hkl⟩
    obtain⟨k,hk,hkl⟩:=this
    have:=yW hN hk (hc k hkl)
    exact ih k hkl (by omega)
 obtain⟨i,hi⟩:=List.exists_mem_of_ne_nil l hl
 exact key _ i hi (Nat.le_refl _)
end
def gz (a b:al):Bool:=decide (a.2.1 < b.2.1) || (decide (a.2.1=b.2.1) && decide (a.1 < b.1))
def Dj (a b:al):Int:=if kF a.2.1 b.2.1=0 then kF a.1 b.1 else kF a.2.1 b.2.1
theorem Cq (a b:al):oS a b=some ((gz a b,()),()):=by
 rw[En]
 unfold gz
 by_cases h1:a.2.1 < b.2.1
 ·simp[h1]
 ·by_cases h2:a.2.1=b.2.1 <;> simp[h1,h2]
theorem Fo (a b:al):mq a b=some ((Dj a b,()),()):=by
 rw[wI]
 simp only[w7,Option.bind_some]
 rw[Fi (by simp)]
 unfold Dj
 by_cases h1:kF a.2.1 b.2.1=0
 ·by_cases h2:kF a.1 b.1=0 <;> simp[List.find?,h1,h2]
 ·simp[List.find?,h1]
theorem Xq {a b:al}:Dj a b < 0↔gz a b=true:=by
 unfold Dj gz kF
 simp only[Bool.or_eq_true,Bool.and_eq_true,decide_eq_true_eq]
 by_cases h1:a.2.1 < b.2.1
 ·simp[h1]
 ·by_cases h2:b.2.1 < a.2.1
  ·simp[h1,h2]
   omega
  ·have h3:a.2.1=b.2.1:=by omega
   by_cases h4:a.1 < b.1
   ·simp[h3,h4]
   ·by_cases h5:b.1 < a.1 <;> simp[h3,h4,h5]
theorem PP {a b:al}:(Dj a b≥0)↔gz a b=false:=by
 rw[ge_iff_le,←Int.not_lt,Xq]
 simp
theorem MJ {a b c:al} (h:gz a b=true) (k:gz b c=true):gz a c=true:=by
 simp only[gz,Bool.or_eq_true,Bool.and_eq_true,decide_eq_true_eq] at *
 omega
def qC:Option al→List al→Bool
 | _,[]=>true
 | none,b :: l=>qC (some b) l
 | some a,b :: l=>gz a b && qC (some b) l
theorem Cr {o:Option al} {b:al} {l:List al}:qC o (b :: l)=((match o with | some a=>gz a b | none=>true) && qC (some b) l):=by
 cases o <;> simp[qC]
theorem PQ : ∀ {l:List al} {a:al},qC (some a) l=true→(∀ b∈l,gz a b=true)∧l.Pairwise fun a b=>gz a b=true
 | [],a,_=>⟨fun b hb=>(by cases hb),List.Pairwise.nil⟩
 | b :: l,a,h=>by
  simp only[qC,Bool.and_eq_true] at h
  obtain⟨h1,h2⟩:=PQ h.2
  refine⟨fun c hc => ?_,List.pairwise_cons.2 ⟨h1,h2⟩⟩
  rcases List.mem_cons.1 hc with rfl | hc
  ·exact h.1
  ·exact MJ h.1 (h1 c hc)
theorem TU {l:List al} (h:qC none l=true):l.Pairwise fun a b=>gz a b=true:=by
 cases l with
 | nil=>exact List.Pairwise.nil
 | cons a l =>
  obtain⟨h1,h2⟩:=PQ (l:=l) (a:=a) h
  exact List.pairwise_cons.2 ⟨h1,h2⟩
def fU (l:List ac):Bool:=decide ((l.length:Int)≤120) && ((l.all fun c=>bK c.1 && ao c.2.1) && qC none (l.map (·.1)))
theorem PR {α:Type} {pre:List α} (h:pre≠[]) : ∃ q p,pre=q++[p]:=⟨pre.dropLast,pre.getLast h,(List.dropLast_concat_getLast h).symm⟩
section
variable {xs:List ac} (hl:xs.length≤10000000) (hs : ∀ c∈xs,c.2.1.2.2.1.size≤9223372036854775807)
include hl hs
theorem yX : ∀(ys pre:List ac),xs=pre++ys→mE xs (pre.length:Int)=some (((ys.all fun c=>bK c.1 && ao c.2.1) && qC (pre.getLast?.map (·.1)) (ys.map (·.1)),()),())
 | [],pre,he=>by
  rw[wS,ax (bw he)]
  simp[qC]
 | y :: ys,pre,he=>by
  have ih:=yX ys _ (av he)
  have hy:=hs y (by rw[he]; simp)
  rw[wS,aF (bH he)]
  simp only[bC he,mM,fG hy,Option.bind_some,aO he (by omega),ih]
  simp only[List.all_cons,List.map_cons,Cr,List.getLast?_append,List.getLast?_singleton,Option.some_or,Option.map_some]
  cases bK y.1 with
  | false=>simp
  | true =>
   cases ao y.2.1 with
   | false=>simp
   | true =>
    by_cases hp:pre=[]
    ·subst hp
     simp
    ·obtain⟨q,p,rfl⟩:=PR hp
     have hq:xs=q++p :: (y :: ys):=by rw[he]; simp
     have hw:(((q++[p]).length:Nat):Int) - 1=(q.length:Int):=by simp
     have h0:((q++[p]).length:Int) > 0:=by rw[List.length_append,List.length_singleton]; omega
     simp only[hw,decide_eq_true h0,if_true,Bool.not_true,Bool.false_eq_true,if_false]
     rw[kH (by omega) (by have:=bH hq; omega),bC hq,Cq,Option.bind_some]
     simp only[List.getLast?_append,List.getLast?_singleton,Option.some_or,Option.map_some,Bool.true_and]
     cases gz p.1 y.1 <;> simp
theorem vx:sJ xs=some ((fU xs,()),()):=by
 rw[Mw]
 unfold fU
 by_cases h:(xs.length:Int) > 120
 ·rw[aF h,decide_eq_false (by omega)]
  rfl
 ·rw[ax h,decide_eq_true (by omega)]
  have:=yX hl hs xs [] rfl
  simpa using this
theorem yY : ∀(ys pre:List ac),xs=pre++ys→mF xs xs (xs.length:Int) (pre.length:Int)=some ((((ys.all fun c=>bK c.1 && ao c.2.1) && qC (pre.getLast?.map (·.1)) (ys.map (·.1))) && decide ((xs.length:Int)≤120),()),())
 | [],pre,he=>by
  rw[wT,ax (bw he)]
  simp[qC]
 | y :: ys,pre,he=>by
  have ih:=yY ys _ (av he)
  have hy:=hs y (by rw[he]; simp)
  rw[wT,aF (bH he)]
  simp only[bC he,sW,eY hy,Option.bind_some,aO he (by omega),ih]
  simp only[List.all_cons,List.map_cons,Cr,List.getLast?_append,List.getLast?_singleton,Option.some_or,Option.map_some]
  cases bK y.1 with
  | false=>simp
  | true =>
   by_cases hp:pre=[]
   ·subst hp
    cases ao y.2.1 <;> simp
   ·obtain⟨q,p,rfl⟩:=PR hp
    have hq:xs=q++p :: (y :: ys):=by rw[he]; simp
    have hw:(((q++[p]).length:Nat):Int) - 1=(q.length:Int):=by simp
    have h0:((q++[p]).length:Int) > 0:=by rw[List.length_append,List.length_singleton]; omega
    simp only[hw,decide_eq_true h0,if_true,Bool.not_true,Bool.false_eq_true,if_false]
    rw[kH (by omega) (by have:=bH hq; omega),bC hq,Fo,Option.bind_some]
    simp only[List.getLast?_append,List.getLast?_singleton,Option.some_or,Option.map_some,Bool.true_and]
    cases ha:gz p.1 y.1 with
    | true =>
     have : ¬(Dj p.1 y.1≥0):=by rw[PP,ha]; simp
     rw[ax this]
     cases ao y.2.1 <;> simp
    | false =>
     rw[aF (PP.2 ha)]
     cases ao y.2.1 <;> simp
theorem qD:pv xs=some ((fU xs,()),()):=by
 rw[My]
 unfold fU
 have:=yY hl hs xs [] rfl
 rw[Bool.and_comm]
 simpa using this
end
theorem RJ {a b:al}:(bv am a b=true)=(a=b):=propext (kD rfl)
def dt:List ac→al→ab
 | [],_=>v0
 | c :: l,r=>if c.1=r then c.2.1 else dt l r
section
variable {xs:List ac} (hl:xs.length≤10000000)
include hl
theorem G5 {r:al} {a b:Int} {s:ByteArray} : ∀(ys pre:List ac),xs=pre++ys→zX xs (pre.length:Int) r.1 r.2.1 a b s=some ((dt ys r,()),())
 | [],pre,he=>by
  rw[Er,ax (bw he)]
  rfl
 | y :: ys,pre,he=>by
  rw[Er,aF (bH he),bC he,bC he,aO he (by omega),G5 ys _ (av he)]
  show(if bv am y.1 r=true then _ else _)=_
  rw[dt]
  by_cases h:y.1=r
  ·rw[if_pos (by rw[RJ]; exact h),if_pos h]
  ·rw[if_neg (by rw[RJ]; exact h),if_neg h]
theorem MK (r:al):KW xs r=some ((dt xs r,()),()):=by
 rw[VE]
 exact G5 hl xs [] rfl
theorem Cs {r:al} {a b:Int} {s:ByteArray} : ∀(ys pre:List ac),xs=pre++ys→ud xs (xs.length:Int) (pre.length:Int) r.1 r.2.1 a b s=some ((dt ys r,()),())
 | [],pre,he=>by
  rw[A5,ax (bw he)]
  rfl
 | y :: ys,pre,he=>by
  rw[A5,aF (bH he),bC he,aO he (by omega),Cs ys _ (av he)]
  show(if bv am y.1 r=true then _ else _)=_
  rw[dt]
  by_cases h:y.1=r
  ·rw[if_pos (by rw[RJ]; exact h),if_pos h]
  ·rw[if_neg (by rw[RJ]; exact h),if_neg h]
theorem Ar (r:al):yn xs r=some ((dt xs r,()),()):=by
 rw[Q8]
 exact Cs hl xs [] rfl
end
theorem ML:ao v0=true:=by decide
theorem Au : ∀ {l:List ac} {r:al},(∀ c∈l,ao c.2.1=true)→ao (dt l r)=true
 | [],r,_=>ML
 | c :: l,r,h=>by
  unfold dt
  split
  ·exact h c (List.mem_cons_self ..)
  ·exact Au fun d hd=>h d (List.mem_cons_of_mem _ hd)
theorem iw {l:List ac} (h:fU l=true) : ∀ c∈l,ao c.2.1=true:=by
 unfold fU at h
 simp only[Bool.and_eq_true,List.all_eq_true] at h
 exact fun c hc=>(h.2.1 c hc).2
theorem oF {n:Int} (h0:1≤n) (h1:n≤5):ao (vE n)=true:=by
 unfold ao vE
 simp[cQ]
 omega
theorem Ct {n:Int} (h0 : -1000000000000000≤n) (h1:n≤1000000000000000):ao (vN n)=true:=by
 unfold ao vN
 simp[cQ]
 omega
theorem WV (b:Bool):ao (vB b)=true:=by cases b <;> decide
theorem RL (n:Int):ao (bnd n)=true:=by
 unfold bnd
 split
 ·have:=bu.1 ‹_›
  exact Ct this.1 this.2
 ·exact oF (by decide) (by decide)
theorem ul (v:ab):ao (g9 v)=true:=by
 unfold g9
 split
 ·split
  ·assumption
  ·exact oF (by decide) (by decide)
 ·exact oF (by decide) (by decide)
theorem KX {f:Int→Int→ab} (hf : ∀ x y,ao (f x y)=true) (a b:ab):ao (qY f a b)=true:=by
 unfold qY
 split
 ·split
  ·exact hf _ _
  ·exact ul _
 ·exact ul _
theorem G6 (a b:ab):ao (j0 a b)=true:=KX (fun _ _=>RL _) a b
theorem WW (a b:ab):ao (Ai a b)=true:=KX (fun _ _=>RL _) a b
theorem Y1 (a b:ab):ao (Ig a b)=true:=KX (fun x y=>by
 unfold Ry
 split
 ·exact Ct (by omega) (by omega)
 ·exact oF (by decide) (by decide)) a b
theorem Y2 (a b:ab):ao (Ic a b)=true:=KX (fun x y=>by
 split
 ·exact oF (by decide) (by decide)
 ·exact RL _) a b
theorem Y3 (a:ab):ao (Fh a)=true:=WW _ _
theorem TV : ∀(n u:Nat),u≤n → ∀ b∈Lib.decDigits u,48≤b.toNat∧b.toNat≤57:=by
 intro n
 induction n with
 | zero =>
  intro u h b hb
  rw[Lib.decDigits,dif_pos (by omega)] at hb
  rw[List.mem_singleton.1 hb]
  have:u=0:=by omega
  subst this
  decide
 | succ n ih =>
  intro u h b hb
  rw[Lib.decDigits] at hb
  split at hb
  ·rename_i h10
   rw[List.mem_singleton.1 hb]
   simp only[UInt8.toNat_ofNat']
   omega
  ·rcases List.mem_append.1 hb with hb | hb
   ·exact ih (u / 10) (by omega) b hb
   ·rw[List.mem_singleton.1 hb]
    simp only[UInt8.toNat_ofNat']
    omega
theorem Yl (l:List UInt8):nK ⟨l.toArray⟩=l.map fun b=>(b.toNat:Int):=by simp[nK]
theorem RM (n:Int):plain (dr n)=true:=by
 have hu : ∀ u:Nat,plain ⟨(Lib.decDigits u).toArray⟩=true:=by
  intro u
  unfold plain
  rw[Yl,List.all_eq_true]
  intro x hx
  obtain⟨b,hb,rfl⟩:=List.mem_map.1 hx
  have:=TV u u (Nat.le_refl _) b hb
  unfold sX
  simp
  omega
 by_cases h:n < 0
 ·rw[w6 h,show -n=((-n).toNat:Int) by omega,pz]
  have:=hu (-n).toNat
  unfold plain at this ⊢
  rw[GF,List.all_append,this]
  decide
 ·rw[show n=(n.toNat:Int) by omega,pz]
  exact hu _
theorem JO {a b:ByteArray}:plain (a++b)=(plain a && plain b):=by
 unfold plain
 rw[GF,List.all_append]
theorem RN (n:Int):plain (dg n)=true:=by
 have h : ∀ i:Nat,i < 6→plain (VP.getD i eS)=true:=by decide
 unfold dg
 by_cases hn:n.toNat < 6
 ·exact h _ hn
 ·rw[List.getD_eq_getElem?_getD,List.getElem?_eq_none (by show 6≤n.toNat; omega)]
  decide
theorem MM {v:ab} (h:ao v=true) (k:v.1=2):v.2.1=0∧plain v.2.2.1=true∧v.2.2.1.size≤200:=by
 unfold ao at h
 rw[if_pos k] at h
 simp only[Bool.and_eq_true,decide_eq_true_eq] at h
 exact⟨h.1,h.2.1,by omega⟩
theorem RO {v:ab} (h:ao v=true):plain (cB v)=true:=by
 unfold cB
 split
 ·exact RM _
 ·split
  ·rw[JO,(MM h ‹_›).2.1]
   decide
  ·split
   ·unfold Df
    split <;> decide
   ·split
    ·exact RN _
    ·decide
theorem JP {v:ab} (h:ao v=true):plain (qA v)=true:=by
 unfold qA
 split
 ·exact(MM h ‹_›).2.1
 ·exact RO h
theorem Zu {s:ByteArray} (h:plain s=true) (k:s.size≤200):ao (vT s)=true:=by
 unfold ao vT
 simp[h]
 omega
theorem Ym (a b:ab):ao (Ao a b)=true:=by
 unfold Ao
 split
 ·split
  ·split
   ·exact oF (by decide) (by decide)
   ·rename_i h1 h2 h3
    refine Zu ?_ (by rw[size_append]; omega)
    rw[JO,JP (uB h1),JP (uB h2)]
    rfl
  ·exact ul _
 ·exact ul _
theorem Yn (op:Int) (a b:ab):ao (Ap op a b)=true:=by
 unfold Ap
 split
 ·split
  ·split
   ·split
    ·assumption
    ·split
     ·assumption
     ·exact WV _
   ·exact oF (by decide) (by decide)
  ·exact oF (by decide) (by decide)
 ·exact oF (by decide) (by decide)
def l6 (v:ab):Bool:=ao v && (decide (v.1=0) || decide (v.1=1) || decide (v.1=3))
theorem xy {v:ab} (h:v.2.2.1.size≤9223372036854775807):u4 v=some ((decide (v.2.1≠0),l6 v,()),()):=by
 rw[OD]
 unfold l6
 simp only[eY h,Option.bind_some,beq_iff_eq]
 have hb:(v.2.1 != 0)=decide (v.2.1≠0):=by by_cases h:v.2.1=0 <;> simp[h]
 rw[hb]
 cases ao v
 ·rfl
 ·by_cases h0:v.1=0
  ·simp[h0]
  ·by_cases h1:v.1=1
   ·simp[h1]
   ·simp[h0,h1,Cf]
theorem Av {v:ab} (h:ao v=true):uA v=some ((if l6 v=true then decide (v.2.1≠0) else false,if l6 v=true then v0 else g9 v,()),()):=by
 rw[Ri]
 unfold l6 g9
 simp only[dU,Option.bind_some,beq_iff_eq,h,if_true,Bool.true_and]
 rcases GW h with k | k | k | k | k
 ·have:v.2.1=0:=by
   unfold ao at h
   rw[if_neg (by omega),if_pos k] at h
   simp only[Bool.and_eq_true,decide_eq_true_eq] at h
   exact h.2
  simp[k,this,v0]
 ·have hb:(v.2.1 != 0)=decide (v.2.1≠0):=by by_cases h:v.2.1=0 <;> simp[h]
  simp[k,hb,v0]
 ·simp[k]
 ·have:=Ii h k
  have:v.2.1=0∨v.2.1=1:=by omega
  rcases this with h1 | h1 <;> simp[k,h1,v0]
 ·simp[k]
def Cu (a:Bool):List ab→Bool→Bool→ab
 | [],all,one=>vB (if a=true then all else one)
 | v :: l,all,one=>if l6 v=true then Cu a l (all && decide (v.2.1≠0)) (one || decide (v.2.1≠0)) else g9 v
def vy:List ab→ab→ab
 | [],s=>s
 | v :: l,s=>if v.1=4 then v else if v.1=1 then(if(j0 s v).1=4 then j0 s v else vy l (j0 s v)) else vy l s
def nV (op:Int):List ab→Int→Int→Int→ab
 | [],l,m,c=>if op=2 then vN l else if op=3 then vN m else vN c
 | v :: t,l,m,c=>if v.1=4∧op≠4 then v else if v.1=1 then(if c=0 then nV op t v.2.1 v.2.1 1 else nV op t (if v.2.1 < l then v.2.1 else l) (if m < v.2.1 then v.2.1 else m) (c+1)) else nV op t l m c
theorem MN (a:Bool) (v:ab) (l:List ab) (all one:Bool):Cu a (v :: l) all one=if l6 v=true then Cu a l (all && decide (v.2.1≠0)) (one || decide (v.2.1≠0)) else g9 v:=rfl
theorem JQ (v:ab) (l:List ab) (s:ab):vy (v :: l) s=if v.1=4 then v else if v.1=1 then(if(j0 s v).1=4 then j0 s v else vy l (j0 s v)) else vy l s:=rfl
theorem JR (op:Int) (v:ab) (t:List ab) (l m c:Int):nV op (v :: t) l m c=if v.1=4∧op≠4 then v else if v.1=1 then(if c=0 then nV op t v.2.1 v.2.1 1 else nV op t (if v.2.1 < l then v.2.1 else l) (if m < v.2.1 then v.2.1 else m) (c+1)) else nV op t l m c:=rfl
section
variable {xs:List ab} (hl:xs.length≤100000000) (hv : ∀ v∈xs,ao v=true)
include hl hv
theorem yZ {op:Int} {p q:Int} {s:ByteArray} : ∀(ys pre:List ab) (all one:Bool),xs=pre++ys→i8 op all one xs (xs.length:Int) (pre.length:Int) p q s=some ((Cu (decide (op=6)) ys all one,()),())
 | [],pre,all,one,he=>by
  rw[wP,ax (bw he)]
  by_cases h:op=6 <;> simp[h,sY,Cu]
 | y :: ys,pre,all,one,he=>by
  have hy:=hv y (by rw[he]; simp)
  rw[wP,aF (bH he),bC he,xy (da hy),Option.bind_some,aO he (by omega)]
  simp only[yZ ys _ _ _ (av he),gt (da hy),Option.bind_some]
  rw[MN]
  cases l6 y
  ·simp
  ·cases all <;> cases one <;> simp
theorem MO (op:Int):kL op xs=some ((Cu (decide (op=6)) xs true false,()),()):=by
 rw[Mr]
 exact yZ hl hv xs [] true false rfl
theorem vz {p q:Int} {u:ByteArray} : ∀(ys pre:List ab) (s:ab),xs=pre++ys→ao s=true→s.1≠4→qn xs (xs.length:Int) (pre.length:Int) p q u s.1 s.2.1 s.2.2.1=some ((vy ys s,()),())
 | [],pre,s,he,hs,h4=>by
  rw[A6,ax (bw he)]
  rfl
 | y :: ys,pre,s,he,hs,h4=>by
  have hy:=hv y (by rw[he]; simp)
  rw[A6,aF (bH he),bC he,aO he (by omega)]
  show(if(y.1 == 4)=true then _ else if(y.1 == 1)=true then(L4 s y).bind _ else _)=_
  rw[PJ (da hs) (da hy),Option.bind_some]
  rw[JQ]
  by_cases k4:y.1=4
  ·simp[k4]
  ·by_cases k1:y.1=1
   ·by_cases ka:(j0 s y).1=4
    ·simp[k1,ka]
    ·simp only[k1,ka,beq_iff_eq,if_true,if_false]
     rw[if_neg (by decide),if_neg (by decide)]
     exact vz ys _ (j0 s y) (av he) (G6 _ _) ka
   ·simp only[k4,k1,h4,beq_iff_eq,if_false]
    exact vz ys _ s (av he) hs h4
theorem RP:pu xs=some ((vy xs (vN 0),()),()):=by
 rw[Re,jL,Option.bind_some]
 exact vz hl hv xs [] (vN 0) rfl (Ct (by decide) (by decide)) (by decide)
theorem za {op:Int} {p q:Int} {u:ByteArray} : ∀(ys pre:List ab) (l m c:Int),xs=pre++ys→0≤c→c≤pre.length→fL op l m c xs (xs.length:Int) (pre.length:Int) p q u=some ((nV op ys l m c,()),())
 | [],pre,l,m,c,he,h0,h1=>by
  rw[wQ,ax (bw he)]
  unfold nV
  by_cases h2:op=2
  ·simp[h2,jL]
  ·by_cases h3:op=3 <;> simp[h2,h3,jL]
 | y :: ys,pre,l,m,c,he,h0,h1=>by
  have hlt:=bH he
  have ih:=fun l m c h0 h1=>za (op:=op) (p:=p) (q:=q) (u:=u) ys _ l m c (av he) h0 h1
  rw[wQ,aF hlt,bC he,aO he (by omega)]
  rw[wr (n:=c+1) (by omega) (by omega)]
  have hp:((pre++[y]).length:Int)=pre.length+1:=by simp
  generalize ((pre++[y]).length:Int)=w at ih hp ⊢
  rw[JR]
  simp only[beq_iff_eq,bne_iff_ne,ne_eq]
  by_cases hc:c=0
  ·subst hc
   have e1:=ih y.2.1 y.2.1 1 (by decide) (by omega)
   have e2:=ih l m 0 (by decide) (by omega)
   by_cases k4:y.1=4
   ·by_cases o4:op=4
    ·simp[k4,o4]
     rw[←o4]
     exact e2
    ·simp[k4,o4]
   ·by_cases k1:y.1=1
    ·simp[k1]
     exact e1
    ·simp[k4,k1]
     exact e2
  ·have e1:=ih (if y.2.1 < l then y.2.1 else l) (if m < y.2.1 then y.2.1 else m) (c+1) (by omega) (by omega)
   have e2:=ih l m c h0 (by omega)
   by_cases k4:y.1=4
   ·by_cases o4:op=4
    ·simp[k4,o4]
     rw[←o4]
     exact e2
    ·simp[k4,o4]
   ·by_cases k1:y.1=1
    ·simp[k1,hc]
     exact e1
    ·simp[k4,k1]
     exact e2
theorem MP (op:Int):kM op xs=some ((nV op xs 0 0 0,()),()):=by
 rw[Ms]
 exact za hl hv xs [] 0 0 0 rfl (by decide) (by decide)
theorem MQ {op:Int} (ho:op=6∨op=7) {p q c k n:Int} {u t:ByteArray} : ∀(ys pre:List ab) (all one:Bool),xs=pre++ys→bh op xs c all one (pre.length:Int) p q u k n t=some ((Cu (decide (op=6)) ys all one,()),())
 | [],pre,all,one,he=>by
  rw[jw,ax (bw he)]
  rcases ho with rfl | rfl <;> simp[uj,Cu]
 | y :: ys,pre,all,one,he=>by
  have hy:=hv y (by rw[he]; simp)
  have ih:=fun all one=>MQ ho (p:=p) (q:=q) (c:=c) (k:=k) (n:=n) (u:=u) (t:=t) ys _ all one (av he)
  rw[jw,aF (bH he),bC he,Av hy,Option.bind_some,aO he (by omega)]
  simp only[ih]
  rw[MN]
  rcases ho with rfl | rfl
  ·cases it:l6 y
   ·have:=dW y
    simp[this]
   ·cases all <;> cases one <;> simp[v0]
  ·cases it:l6 y
   ·have:=dW y
    simp[this]
   ·cases all <;> cases one <;> simp[v0]
theorem Fp {p q:Int} {u:ByteArray} : ∀(ys pre:List ab) (s:ab) (c:Int),xs=pre++ys→ao s=true→0≤c→c≤pre.length→bh 1 xs c true false (pre.length:Int) p q u s.1 s.2.1 s.2.2.1=some ((vy ys s,()),())
 | [],pre,s,c,he,hs,c0,c1=>by
  rw[jw,ax (bw he)]
  rfl
 | y :: ys,pre,s,c,he,hs,c0,c1=>by
  have hlt:=bH he
  have hy:=hv y (by rw[he]; simp)
  rw[jw,aF hlt,bC he,aO he (by omega),wr (n:=c+1) (by omega) (by omega)]
  have hsy:E5 (s.1,s.2.1,s.2.2.1,()) y=some ((j0 s y,()),()):=Ie (da hs) (da hy)
  have e2:=Fp (p:=p) (q:=q) (u:=u) ys _ s c (av he) hs c0 (by rw[List.length_append,List.length_singleton]; omega)
  have e1:=Fp (p:=p) (q:=q) (u:=u) ys _ (j0 s y) (c+1) (av he) (G6 _ _) (by omega) (by rw[List.length_append,List.length_singleton]; omega)
  simp only[hsy,Option.bind_some,e1,e2]
  rw[JQ]
  by_cases k4:y.1=4
  ·simp[k4]
  ·by_cases k1:y.1=1
   ·by_cases ka:(j0 s y).1=4 <;> simp[k1,ka]
   ·simp[k4,k1]
theorem VV {v:ab} (h:ao v=true) (k:v.1=1):v=vN v.2.1:=by
 unfold ao at h
 rw[if_neg (by omega)] at h
 simp only[Bool.and_eq_true,decide_eq_true_eq] at h
 obtain⟨a,b,c,⟨⟩⟩:=v
 simp only at h k
 rw[k,h.1]
 rfl
set_option maxHeartbeats 2000000 in
theorem MR {op:Int} (ho:op=2∨op=3∨op=4) {p q:Int} {u:ByteArray} : ∀(ys pre:List ab) (l m c n:Int),xs=pre++ys→0≤c→c≤pre.length→c≤1000000000→(op=2→n=l)→(op=3→n=m)→bh op xs c true false (pre.length:Int) p q u 1 n eS=some ((nV op ys l m c,()),())
 | [],pre,l,m,c,n,he,h0,h1,h9,n2,n3=>by
  rw[jw,ax (bw he)]
  unfold nV
  rcases ho with rfl | rfl | rfl
  ·rw[n2 rfl]
   rfl
  ·rw[n3 rfl]
   rfl
  ·have:bnd c=vN c:=by
    unfold bnd
    rw[if_pos (bu.2 (by omega))]
   simp[kO,this]
 | y :: ys,pre,l,m,c,n,he,h0,h1,h9,n2,n3=>by
  have hlt:=bH he
  have hy:=hv y (by rw[he]; simp)
  have hp:((pre++[y]).length:Int)=pre.length+1:=by simp
  have ih:=fun l m c n h0 h1 h9 n2 n3=>MR ho (p:=p) (q:=q) (u:=u) ys _ l m c n (av he) h0 h1 h9 n2 n3
  rw[jw,aF hlt,bC he,aO he (by omega),wr (n:=c+1) (by omega) (by omega)]
  generalize ((pre++[y]).length:Int)=w at ih hp ⊢
  rw[JR]
  simp only[beq_iff_eq,bne_iff_ne,ne_eq]
  by_cases k4:y.1=4
  ·rcases ho with rfl | rfl | rfl
   ·simp[k4]
   ·simp[k4]
   ·simp[k4]
    exact ih l m c n h0 (by omega) h9 (by simp) (by simp)
  ·by_cases k1:y.1=1
   ·have hyv:=VV hl hv hy k1
    have hyS:y.2.2.1=eS:=by rw[hyv]; rfl
    simp only[k1,hyS,not_true,if_false,if_true]
    by_cases hc:c=0
    ·subst hc
     rcases ho with rfl | rfl | rfl
     ·simp
      exact ih y.2.1 y.2.1 1 y.2.1 (by decide) (by omega) (by decide) (fun _=>rfl) (by simp)
     ·simp
      exact ih y.2.1 y.2.1 1 y.2.1 (by decide) (by omega) (by decide) (by simp) (fun _=>rfl)
     ·simp
      exact ih y.2.1 y.2.1 1 y.2.1 (by decide) (by omega) (by decide) (by simp) (by simp)
    ·have hc1 : ¬c+1=1:=by omega
     rcases ho with rfl | rfl | rfl
     ·have:=n2 rfl
      subst this
      by_cases hlt2:y.2.1 < n
      ·simp[hc,hc1,hlt2]
       exact ih _ _ (c+1) y.2.1 (by omega) (by omega) (by omega) (fun _=>rfl) (by simp)
      ·simp[hc,hc1,hlt2]
       exact ih _ _ (c+1) n (by omega) (by omega) (by omega) (fun _=>rfl) (by simp)
     ·have:=n3 rfl
      subst this
      by_cases hlt2:n < y.2.1
      ·simp[hc,hc1,hlt2]
       exact ih _ _ (c+1) y.2.1 (by omega) (by omega) (by omega) (by simp) (fun _=>rfl)
      ·simp[hc,hc1,hlt2]
       exact ih _ _ (c+1) n (by omega) (by omega) (by omega) (by simp) (fun _=>rfl)
     ·simp[hc,hc1]
      exact ih _ _ (c+1) n (by omega) (by omega) (by omega) (by simp) (by simp)
   ·rcases ho with rfl | rfl | rfl <;> simp[k4,k1]
    ·exact ih l m c n h0 (by omega) h9 n2 (by simp)
    ·exact ih l m c n h0 (by omega) h9 (by simp) n3
    ·exact ih l m c n h0 (by omega) h9 (by simp) (by simp)
def Dk (op:Int) (xs:List ab):ab:=if op=6∨op=7 then Cu (decide (op=6)) xs true false else if op=1 then vy xs (vN 0) else nV op xs 0 0 0
theorem RQ {op:Int} (ho:op=1∨op=2∨op=3∨op=4∨op=6∨op=7):HY op xs=some ((Dk op xs,()),()):=by
 rw[Rm]
 unfold Dk
 by_cases h6:op=6∨op=7
 ·rw[if_pos h6]
  exact MQ hl hv h6 xs [] true false rfl
 ·rw[if_neg h6]
  by_cases h1:op=1
  ·subst h1
   exact Fp hl hv xs [] (vN 0) 0 rfl (Ct (by decide) (by decide)) (by decide) (by decide)
  ·rw[if_neg h1]
   exact MR hl hv (by omega) xs [] 0 0 0 0 rfl (by decide) (by decide) (by decide) (fun _=>rfl) (fun _=>rfl)
end
theorem TW {a:Bool} : ∀ {l:List ab} {p q:Bool},ao (Cu a l p q)=true
 | [],p,q=>WV _
 | v :: l,p,q=>by
  unfold Cu
  split
  ·exact TW
  ·exact ul _
theorem Ik : ∀ {l:List ab} {s:ab},(∀ v∈l,ao v=true)→ao s=true→ao (vy l s)=true
 | [],s,_,h=>h
 | v :: l,s,hv,h=>by
  unfold vy
  split
  ·exact hv v (List.mem_cons_self ..)
  ·split
   ·split
    ·exact G6 _ _
    ·exact Ik (fun w hw=>hv w (List.mem_cons_of_mem _ hw)) (G6 _ _)
   ·exact Ik (fun w hw=>hv w (List.mem_cons_of_mem _ hw)) h
theorem Dl {op:Int} : ∀ {t:List ab} {l m c:Int},(∀ v∈t,ao v=true)→(-1000000000000000≤l∧l≤1000000000000000)→(-1000000000000000≤m∧m≤1000000000000000)→(0≤c∧c+t.length≤1000000000000000)→ao (nV op t l m c)=true
 | [],l,m,c,hv,hl,hm,hc=>by
  unfold nV
  simp only[List.length_nil] at hc
  split
  ·exact Ct hl.1 hl.2
  ·split
   ·exact Ct hm.1 hm.2
   ·exact Ct (by omega) (by omega)
 | v :: t,l,m,c,hv,hl,hm,hc=>by
  have hvv:=hv v (List.mem_cons_self ..)
  have hvt:=fun w hw=>hv w (List.mem_cons_of_mem _ hw)
  simp only[List.length_cons] at hc
  unfold nV
  split
  ·exact hvv
  ·split
   ·have:=yU hvv ‹_›
    split
    ·exact Dl hvt this this (by omega)
    ·refine Dl hvt ?_ ?_ (by omega)
     ·split <;> omega
     ·split <;> omega
   ·exact Dl hvt hl hm (by omega)
theorem VW {op:Int} {xs:List ab} (hv : ∀ v∈xs,ao v=true) (hl:xs.length≤100000000):ao (Dk op xs)=true:=by
 unfold Dk
 split
 ·exact TW
 ·split
  ·exact Ik hv (Ct (by decide) (by decide))
  ·exact Dl hv (by decide) (by decide) (by omega)
def dG (a:aM) (r:al):Bool:=cQ r.1 a.1.1 a.2.1.1 && cQ r.2.1 a.1.2.1 a.2.1.2.1
def dy (x:aa):aM:=if x.1=2 then(x.2.2.2.1.1,x.2.2.2.1.1,()) else(x.2.2.2.1.1,x.2.2.2.2.1.1,())
theorem vA (r:al) (a:aM):sI r a=some ((dG a r,()),()):=by
 rw[Mu]
 unfold dG
 simp only[mL,Option.bind_some]
 cases cQ r.1 a.1.1 a.2.1.1 <;> simp
theorem Cv (a:aM) (r:al):sG a r=some ((dG a r,()),()):=by
 rw[Mn]
 unfold dG
 simp only[jK,Option.bind_some]
 cases cQ r.1 a.1.1 a.2.1.1 <;> simp
theorem zb (x:aa):jX x=some ((dy x,()),()):=by
 rw[yA]
 unfold dy
 by_cases h:x.1=2 <;> simp[h]
def jd (l:List ac) (a:aM):List ab:=(l.filter fun c=>dG a c.1).map fun c=>c.2.1
def jM (ev:Int→ab) (f:List aa) (l:List ac):List Int→List ab
 | []=>[]
 | k :: ks=>(if(cm f k).1=3 then jd l (dy (cm f k)) else [ev k])++jM ev f l ks
def WX (op:Int) (n:Int) (kid:Nat→ab) (args:List ab):ab :=
 if op=5 then(if l6 (kid 0)=true then(if(kid 0).2.1≠0 then kid 1 else if n > 2 then kid 2 else vB false) else g9 (kid 0))
 else if op=8 then(if l6 (kid 0)=true then vB (!decide ((kid 0).2.1≠0)) else g9 (kid 0))
 else if op=9 then(if cT (kid 0)=true then vN ((kid 0).2.1.natAbs:Int) else g9 (kid 0))
 else if op=10 then(if nU (kid 0)=true then vN ((qA (kid 0)).size:Int) else g9 (kid 0))
 else Dk op args
def Yo (op:Int) (a b:ab):ab:=if op=1 then j0 a b else if op=2 then Ai a b else if op=3 then Ig a b else if op=4 then Ic a b else if op=5 then Ao a b else Ap op a b
def cZ:Nat→List aa→List ac→Int→ab
 | 0,_,_,_=>v0
 | n+1,f,l,k =>
  let x:=cm f k
  let kid:=fun i:Nat=>cZ n f l (x.2.2.2.2.2.1.getD i 0)
  if x.1=1 then x.2.2.1 else if x.1=2 then dt l x.2.2.2.1.1 else if x.1=3 then vE 2 else if x.1=4 then Fh (kid 0)
  else if x.1=6 then WX x.2.1 (kl x) kid (jM (cZ n f l) f l x.2.2.2.2.2.1) else Yo x.2.1 (kid 0) (kid 1)
section
variable {f:List aa} {l:List ac} (hl:l.length≤1000) (hf:f.length≤10000000)
include hl hf
theorem vC {k:Int} {i:Int} {a:aM} : ∀(ys pre:List ac) (acc:List ab),l=pre++ys→acc.length+ys.length≤1000000→jZ f k l i (pre.length:Int) acc a.1 a.2.1=nq f k l (IntKind.i64.wrap (i+1)) (acc++jd ys a)
 | [],pre,acc,he,hb=>by
  rw[yQ,ax (bw he)]
  simp[jd]
 | y :: ys,pre,acc,he,hb=>by
  have hb':acc.length+(ys.length+1)≤1000000:=by simpa using hb
  rw[yQ,aF (bH he),bC he,vA,Option.bind_some,aO he (by omega)]
  show(if dG a y.1=true then _ else _)=_
  cases ha:dG a y.1
  ·rw[if_neg (by decide),vC ys _ acc (av he) (by omega)]
   simp[jd,ha]
  ·rw[if_pos rfl,bC he,bp (KS (by simp only[List.length_singleton]; omega)),vC ys _ _ (av he) (by simp only[List.length_append,List.length_singleton]; omega)]
   simp[jd,ha]
theorem rt {k:Int} {x:aa} (hk0:0≤k) (hk:f[k.toNat]? = some x) {ks:List Int} {i:Int} : ∀(ys pre:List ac) (acc:List ab),l=pre++ys→acc.length+ys.length≤1000000→jc f l k ks (ks.length:Int) i l (l.length:Int) (pre.length:Int) acc=kB f l ks (ks.length:Int) (IntKind.i64.wrap (i+1)) (acc++jd ys (dy x))
 | [],pre,acc,he,hb=>by
  rw[wW,ax (bw he)]
  simp[jd]
 | y :: ys,pre,acc,he,hb=>by
  have hb':acc.length+(ys.length+1)≤1000000:=by simpa using hb
  rw[wW,aF (bH he),bC he,ca hk0 hk,zb,Option.bind_some,Cv,Option.bind_some,aO he (by omega)]
  show(if dG (dy x) y.1=true then _ else _)=_
  cases ha:dG (dy x) y.1
  ·rw[if_neg (by decide),rt hk0 hk ys _ acc (av he) (by omega)]
   simp[jd,ha]
  ·rw[if_pos rfl,bp (KS (by simp only[List.length_singleton]; omega)),rt hk0 hk ys _ _ (av he) (by simp only[List.length_append,List.length_singleton]; omega)]
   simp[jd,ha]
omit hf in
theorem Aw (a:aM):(jd l a).length≤1000:=by
 unfold jd
 rw[List.length_map]
 exact Nat.le_trans (List.length_filter_le _ _) hl
theorem vD {k:Int} {x:aa} {ev:Int→ab} (hk0:0≤k) (hk:f[k.toNat]? = some x) (hkl:x.2.2.2.2.2.1.length≤100) (hev : ∀ j∈x.2.2.2.2.2.1,0≤j∧j < f.length∧fu f j l=some ((ev j,()),())) :
  ∀(ys pre:List Int) (acc:List ab),x.2.2.2.2.2.1=pre++ys→acc.length≤pre.length*1000→nq f k l (pre.length:Int) acc=some ((acc++jM ev f l ys,()),())
 | [],pre,acc,he,hb=>by
  rw[A7,ca hk0 hk,ax (bw he)]
  simp[jM]
 | y :: ys,pre,acc,he,hb=>by
  have hlen:pre.length < 100:=by
   rw[he,List.length_append,List.length_cons] at hkl
   omega
  obtain⟨y0,y1,y2⟩:=hev y (by rw[he]; simp)
  obtain⟨z,hz⟩ : ∃ z,f[y.toNat]? = some z:=⟨f[y.toNat]'(by omega),List.getElem?_eq_getElem _⟩
  have hnz:cm f y=z:=by
   unfold cm
   rw[List.getD_eq_getElem?_getD,hz]
   rfl
  rw[A7,ca hk0 hk,aF (bH he),ca hk0 hk,bC he,ca y0 hz]
  unfold jM
  rw[hnz]
  by_cases h3:z.1=3
  ·rw[if_neg (by simp[h3]),if_pos h3,show jZ f k l (pre.length:Int) 0 acc z.2.2.2.1.1 z.2.2.2.2.1.1=jZ f k l (pre.length:Int) (([]:List ac).length:Int) acc (z.2.2.2.1.1,z.2.2.2.2.1.1,()).1 (z.2.2.2.1.1,z.2.2.2.2.1.1,()).2.1 from rfl,vC hl hf l [] acc rfl (by omega),aO he (by omega),vD hk0 hk hkl hev ys _ _ (av he)]
   ·have ha:dy z=(z.2.2.2.1.1,z.2.2.2.2.1.1,()):=by
     unfold dy
     rw[if_neg (by omega)]
    rw[ha]
    simp
   ·have:=Aw hl (z.2.2.2.1.1,z.2.2.2.2.1.1,())
    simp only[List.length_append,List.length_singleton]
    omega
  ·rw[if_pos (by simp[h3]),if_neg h3,ca hk0 hk,bC he,y2,Option.bind_some,bp (KS (by simp only[List.length_singleton]; omega)),aO he (by omega),vD hk0 hk hkl hev ys _ _ (av he)]
   ·simp
   ·simp only[List.length_append,List.length_singleton]
    omega
theorem ru {x:aa} {ev:Int→ab} (hkl:x.2.2.2.2.2.1.length≤100) (hev : ∀ j∈x.2.2.2.2.2.1,0≤j∧j < f.length∧jE f j l=some ((ev j,()),())) :
  ∀(ys pre:List Int) (acc:List ab),x.2.2.2.2.2.1=pre++ys→acc.length≤pre.length*1000→kB f l x.2.2.2.2.2.1 (x.2.2.2.2.2.1.length:Int) (pre.length:Int) acc=some ((acc++jM ev f l ys,()),())
 | [],pre,acc,he,hb=>by
  rw[wO,ax (bw he)]
  simp[jM]
 | y :: ys,pre,acc,he,hb=>by
  have hlen:pre.length < 100:=by
   rw[he,List.length_append,List.length_cons] at hkl
   omega
  obtain⟨y0,y1,y2⟩:=hev y (by rw[he]; simp)
  obtain⟨z,hz⟩ : ∃ z,f[y.toNat]? = some z:=⟨f[y.toNat]'(by omega),List.getElem?_eq_getElem _⟩
  have hnz:cm f y=z:=by
   unfold cm
   rw[List.getD_eq_getElem?_getD,hz]
   rfl
  rw[wO,aF (bH he),bC he,ca y0 hz]
  unfold jM
  rw[hnz]
  by_cases h3:z.1=3
  ·rw[if_neg (by simp[h3]),if_pos h3,show jc f l y x.2.2.2.2.2.1 (x.2.2.2.2.2.1.length:Int) (pre.length:Int) l (l.length:Int) 0 acc=jc f l y x.2.2.2.2.2.1 (x.2.2.2.2.2.1.length:Int) (pre.length:Int) l (l.length:Int) (([]:List ac).length:Int) acc from rfl,rt hl hf y0 hz l [] acc rfl (by omega),aO he (by omega),ru hkl hev ys _ _ (av he)]
   ·simp
   ·have:=Aw hl (dy z)
    simp only[List.length_append,List.length_singleton]
    omega
  ·rw[if_pos (by simp[h3]),if_neg h3,y2,Option.bind_some,bp (KS (by simp only[List.length_singleton]; omega)),aO he (by omega),ru hkl hev ys _ _ (av he)]
   ·simp
   ·simp only[List.length_append,List.length_singleton]
    omega
omit hf in
theorem JS {ev:Int→ab} : ∀ ks:List Int,(jM ev f l ks).length≤ks.length*1001
 | []=>by simp[jM]
 | k :: ks=>by
  have:=JS (ev:=ev) ks
  have h:=Aw hl (dy (cm f k))
  unfold jM
  rw[List.length_append,List.length_cons]
  split
  ·omega
  ·rw[List.length_singleton]
   omega
omit hl hf in
theorem MS {ev:Int→ab} (hv : ∀ c∈l,ao c.2.1=true) : ∀ ks:List Int,(∀ j∈ks,ao (ev j)=true) → ∀ v∈jM ev f l ks,ao v=true
 | [],_,v,h=>by cases h
 | k :: ks,he,v,h=>by
  unfold jM at h
  rcases List.mem_append.1 h with h | h
  ·split at h
   ·unfold jd at h
    obtain⟨c,hc,rfl⟩:=List.mem_map.1 h
    exact hv c (List.mem_filter.1 hc).1
   ·rw[List.mem_singleton.1 h]
    exact he k (List.mem_cons_self ..)
  ·exact MS hv ks (fun j hj=>he j (List.mem_cons_of_mem _ hj)) v h
theorem MT {x:aa} (h:df x=true):(x.1=1∧ao x.2.2.1=true)∨x.1=2∨x.1=3∨(x.1=4∧kl x=1)∨(x.1=5∧kl x=2∧cQ x.2.1 1 11=true)∨(x.1=6∧kG x.2.1 (kl x)=true):=by
 unfold df at h
 by_cases h1:x.1=1
 ·rw[if_pos h1] at h
  simp only[Bool.and_eq_true] at h
  exact .inl ⟨h1,h.1.1.2⟩
 rw[if_neg h1] at h
 by_cases h2:x.1=2
 ·exact .inr (.inl h2)
 rw[if_neg h2] at h
 by_cases h3:x.1=3
 ·exact .inr (.inr (.inl h3))
 rw[if_neg h3] at h
 by_cases h4:x.1=4
 ·rw[if_pos h4] at h
  simp only[Bool.and_eq_true,decide_eq_true_eq] at h
  exact .inr (.inr (.inr (.inl ⟨h4,h.2⟩)))
 rw[if_neg h4] at h
 by_cases h5:x.1=5
 ·rw[if_pos h5] at h
  simp only[Bool.and_eq_true,decide_eq_true_eq] at h
  exact .inr (.inr (.inr (.inr (.inl ⟨h5,h.2,h.1.1.1.1⟩))))
 rw[if_neg h5] at h
 by_cases h6:x.1=6
 ·rw[if_pos h6] at h
  simp only[Bool.and_eq_true,decide_eq_true_eq] at h
  exact .inr (.inr (.inr (.inr (.inr ⟨h6,h.1.1.1⟩))))
 rw[if_neg h6] at h
 cases h
theorem MU {op k:Int} (h:kG op k=true):(op=5∧(k=2∨k=3))∨((op=1∨op=2∨op=3∨op=4∨op=6∨op=7)∧1≤k∧k≤10)∨((op=8∨op=9∨op=10)∧k=1):=by
 unfold kG at h
 by_cases h5:op=5
 ·rw[if_pos h5] at h
  simp only[Bool.or_eq_true,decide_eq_true_eq] at h
  exact .inl ⟨h5,h⟩
 ·rw[if_neg h5] at h
  split at h
  ·rename_i h7
   have:=bu.1 h7
   have:=bu.1 h
   exact .inr (.inl ⟨by omega,by omega⟩)
  ·split at h
   ·rename_i h8
    have:=bu.1 h8
    simp only[decide_eq_true_eq] at h
    exact .inr (.inr ⟨by omega,h⟩)
   ·cases h
omit hl hf in
theorem TX {v:ab} (h:cT v=true):(if v.2.1 < IntKind.i64.wrap (0 - v.2.1) then IntKind.i64.wrap (0 - v.2.1) else v.2.1)=(v.2.1.natAbs:Int):=by
 have:=cE h
 rw[wr (by omega) (by omega)]
 split <;> omega
omit hl hf in
theorem MV {n:Int} (h0 : -1000000000000000≤n) (h1:n≤1000000000000000):bnd n=vN n:=by
 unfold bnd
 rw[if_pos (bu.2 ⟨h0,h1⟩)]
theorem PS (A : ∀(i:Nat) (x:aa),f[i]? = some x→mN f i x) (hv : ∀ c∈l,ao c.2.1=true) : ∀(n:Nat) (k:Int),0≤k→k < n→k < f.length →
  fu f k l=some ((cZ n f l k,()),())∧jE f k l=some ((cZ n f l k,()),())∧ao (cZ n f l k)=true
 | 0,k,h0,h1,_=>by omega
 | n+1,k,h0,h1,h2=>by
  obtain⟨x,hx⟩ : ∃ y,f[k.toNat]? = some y:=⟨f[k.toNat]'(by omega),List.getElem?_eq_getElem _⟩
  have hst:=A _ _ hx
  have hnx:cm f k=x:=by
   unfold cm
   rw[List.getD_eq_getElem?_getD,hx]
   rfl
  have hk : ∀ j∈x.2.2.2.2.2.1,fu f j l=some ((cZ n f l j,()),())∧jE f j l=some ((cZ n f l j,()),())∧ao (cZ n f l j)=true:=fun j hj=>by
   have:=hst.2 j hj
   exact PS A hv n j this.1 (by omega) (by omega)
  rw[Rh,Vy,ca h0 hx,ca h0 hx]
  unfold cZ
  simp only[hnx]
  rcases MT hl hf hst.1 with⟨k1,ho⟩ | k2 | k3 | ⟨k4,hkl⟩ | ⟨k5,hkl,hop⟩ | ⟨k6,hop⟩
  ·simp[k1,ho]
  ·simp[k2,MK (xs:=l) (by omega),Ar (xs:=l) (by omega),Au hv]
  ·simp[k3,dU,gc,oF (n:=2) (by decide) (by decide)]
  ·obtain⟨a,ha⟩ : ∃ a,x.2.2.2.2.2.1=[a]:=List.length_eq_one_iff.1 (by unfold kl at hkl; omega)
   obtain⟨e1,e2,e3⟩:=hk a (by rw[ha]; simp)
   have hi : ∀(d:Int) (g:Int→Option ((ab×Unit)×Unit)),ix [a] 0 d g=g a:=fun d g=>ca (by decide) rfl
   simp[k4,ha,hi,e1,e2,Et (da e3),OL (da e3),Y3]
  ·obtain⟨a,b,ha⟩ : ∃ a b,x.2.2.2.2.2.1=[a,b]:=by
    cases hq:x.2.2.2.2.2.1 with
    | nil=>unfold kl at hkl; rw[hq] at hkl; simp at hkl
    | cons a t=>cases t with
     | nil=>unfold kl at hkl; rw[hq] at hkl; simp at hkl
     | cons b t=>cases t with
      | nil=>exact⟨a,b,rfl⟩
      | cons c t=>unfold kl at hkl; rw[hq] at hkl; simp at hkl; omega
   obtain⟨e1,e2,e3⟩:=hk a (by rw[ha]; simp)
   obtain⟨g1,g2,g3⟩:=hk b (by rw[ha]; simp)
   have hi : ∀(d:Int) (g:Int→Option ((ab×Unit)×Unit)),ix [a,b] 0 d g=g a:=fun d g=>ca (by decide) rfl
   have hj : ∀(d:Int) (g:Int→Option ((ab×Unit)×Unit)),ix [a,b] 1 d g=g b:=fun d g=>ca (by decide) rfl
   have b1:=da e3
   have b2:=da g3
   simp only[k5,ha,hi,hj,e1,e2,g1,g2,Option.bind_some,Ie b1 b2,PJ b1 b2,VM b1 b2,MB b1 b2,TM b1 b2,TN b1 b2,VN b1 b2,VO b1 b2,RB b1 b2,RC b1 b2,VQ b1 b2,VR b1 b2,List.getD_cons_zero,List.getD_cons_succ]
   unfold Yo
   by_cases o1:x.2.1=1
   ·simp[o1,G6]
   by_cases o2:x.2.1=2
   ·simp[o2,WW]
   by_cases o3:x.2.1=3
   ·simp[o3,Y1]
   by_cases o4:x.2.1=4
   ·simp[o4,Y2]
   by_cases o5:x.2.1=5
   ·simp[o5,Ym]
   simp[o1,o2,o3,o4,o5,Yn]
  ·have hcs:=MU hl hf hop
   have hn10:x.2.2.2.2.2.1.length≤10:=by unfold kl at hcs; omega
   have hne:1≤x.2.2.2.2.2.1.length:=by unfold kl at hcs; omega
   obtain⟨a,t,hat⟩ : ∃ a t,x.2.2.2.2.2.1=a :: t:=by
    cases hq:x.2.2.2.2.2.1 with
    | nil=>rw[hq] at hne; simp at hne
    | cons a t=>exact⟨a,t,rfl⟩
   obtain⟨e1,e2,e3⟩:=hk a (by rw[hat]; simp)
   have hi : ∀(d:Int) (g:Int→Option ((ab×Unit)×Unit)),ix x.2.2.2.2.2.1 0 d g=g a:=fun d g=>ca (by decide) (by rw[hat]; rfl)
   have hg0:x.2.2.2.2.2.1.getD 0 0=a:=by rw[hat]; rfl
   rw[Rn,Rf,ca h0 hx]
   have b1:=da e3
   unfold WX
   rcases hcs with⟨o5,hk2⟩ | ⟨oo,_⟩ | ⟨oo,_⟩
   ·
    have hm : ∀ j:Nat,j < x.2.2.2.2.2.1.length → ∃ c,x.2.2.2.2.2.1[j]? = some c∧x.2.2.2.2.2.1.getD j 0=c∧fu f c l=some ((cZ n f l c,()),())∧jE f c l=some ((cZ n f l c,()),())∧ao (cZ n f l c)=true:=fun j hj=>by
     refine⟨x.2.2.2.2.2.1[j],List.getElem?_eq_getElem _,by simp[List.getD_eq_getElem?_getD,hj],hk _ (List.getElem_mem _)⟩
    rw[Ra]
    simp only[k6,o5,hi,hg0,e1,e2,Option.bind_some,Av e3,xy b1,gt b1,sY,uj,beq_self_eq_true,if_true]
    unfold kl at hk2
    cases ht:l6 (cZ n f l a) with
    | false =>
     have:=dW (cZ n f l a)
     simp[this,ul]
    | true =>
     obtain⟨c,c1,c2,c3,c4,c5⟩:=hm 1 (by omega)
     have hi1 : ∀(d:Int) (g:Int→Option ((ab×Unit)×Unit)),ix x.2.2.2.2.2.1 1 d g=g c:=fun d g=>ca (by decide) c1
     simp only[if_true,hi1,c2,c3,c4,Option.bind_some]
     by_cases hz:(cZ n f l a).2.1=0
     ·rcases hk2 with h22 | h33
      ·have h22':x.2.2.2.2.2.1.length=2:=by omega
       simp[hz,v0,kl,h22',WV]
      ·obtain⟨d,d1,d2,d3,d4,d5⟩:=hm 2 (by omega)
       have hi2 : ∀(z:Int) (g:Int→Option ((ab×Unit)×Unit)),ix x.2.2.2.2.2.1 2 z g=g d:=fun z g=>ca (by decide) d1
       have h33':x.2.2.2.2.2.1.length=3:=by omega
       have d2':x.2.2.2.2.2.1[2]?.getD 0=d:=by rw[←List.getD_eq_getElem?_getD]; exact d2
       have d6 : ∀ hh:2 < x.2.2.2.2.2.1.length,x.2.2.2.2.2.1[2]'hh=d:=fun hh=>by
        rw[List.getElem?_eq_getElem hh] at d1
        exact Option.some.inj d1
       simp[hz,v0,kl,h33',hi2,d6,d3,d4,d5]
     ·have c2':x.2.2.2.2.2.1[1]?.getD 0=c:=by rw[←List.getD_eq_getElem?_getD]; exact c2
      simp[hz,v0,c5,c2']
   ·
    have h5:x.2.1≠5:=by omega
    have h8:x.2.1≠8:=by omega
    have h9:x.2.1≠9:=by omega
    have h10:x.2.1≠10:=by omega
    have ea:=vD hl hf (ev:=cZ n f l) h0 hx (by omega) (fun j hj=>⟨(hst.2 j hj).1,by have:=(hst.2 j hj).2.1; omega,(hk j hj).1⟩) x.2.2.2.2.2.1 [] [] rfl (by simp)
    have eb:=ru hl hf (x:=x) (ev:=cZ n f l) (by omega) (fun j hj=>⟨(hst.2 j hj).1,by have:=(hst.2 j hj).2.1; omega,(hk j hj).2.1⟩) x.2.2.2.2.2.1 [] [] rfl (by simp)
    have hal:=JS hl (f:=f) (ev:=cZ n f l) x.2.2.2.2.2.1
    have hav:=MS (f:=f) (ev:=cZ n f l) hv x.2.2.2.2.2.1 (fun j hj=>(hk j hj).2.2)
    simp only[List.nil_append] at ea eb
    generalize jM (cZ n f l) f l x.2.2.2.2.2.1=args at ea eb hal hav ⊢
    have ea':HX f k l=some ((args,()),()):=by rw[Rl]; exact ea
    have eb':cP f x l=some ((args,()),()):=by rw[Mq]; exact eb
    have hlen:args.length≤100000000:=by omega
    simp only[ea',eb',Option.bind_some,RQ hlen hav oo,MO hlen hav,RP hlen hav,MP hlen hav]
    have hfo:=VW (op:=x.2.1) hav hlen
    unfold Dk at hfo ⊢
    rcases oo with o | o | o | o | o | o <;> simp[k6,o] <;> simpa[o] using hfo
   ·
    simp only[k6,hi,hg0,e1,e2,Option.bind_some]
    rw[Rc]
    obtain⟨t,e4,e5⟩:=Am b1
    simp only[Av e3,An b1,uj,kO,xy b1,fP b1,e4,gt b1,sY,jL,Option.bind_some,show((0,0,({data := #[]}:ByteArray),()):ab)=v0 from rfl,Ie b1 (b:=v0) (by decide)]
    rcases oo with o | o | o
    ·simp only[o]
     cases ht:l6 (cZ n f l a) with
     | false =>
      have:=dW (cZ n f l a)
      simp[this,ul]
     | true=>simp[v0,WV]
    ·simp only[o]
     have h0n:cT v0=true:=by decide
     cases ht:cT (cZ n f l a) with
     | false =>
      have:=dW (cZ n f l a)
      have ha:j0 (cZ n f l a) v0=g9 (cZ n f l a):=by
       unfold j0 qY
       rw[if_neg (by rw[ht]; decide)]
      simp[ha,this,ul]
     | true =>
      have hr:=cE ht
      have ha:j0 (cZ n f l a) v0=vN (cZ n f l a).2.1:=by
       unfold j0 qY
       rw[if_pos ht,if_pos h0n]
       show bnd ((cZ n f l a).2.1+0)=_
       rw[Int.add_zero,MV hr.1 hr.2]
      have hN:ao (vN (cZ n f l a).2.1)=true:=Ct hr.1 hr.2
      have hneg:Fh (vN (cZ n f l a).2.1)=vN (-(cZ n f l a).2.1):=by
       unfold Fh Ai qY
       rw[if_pos h0n,if_pos (by unfold cT; rw[hN]; rfl)]
       show bnd (0 - (cZ n f l a).2.1)=_
       rw[MV (by omega) (by omega)]
       congr 1
       omega
      have habs:=TX ht
      have hok:ao (vN ((cZ n f l a).2.1.natAbs:Int))=true:=Ct (by omega) (by omega)
      simp only[ha,habs,Et (da hN),hneg,Option.bind_some]
      by_cases hlt:(cZ n f l a).2.1 < 0
      ·have:(-(cZ n f l a).2.1)=((cZ n f l a).2.1.natAbs:Int):=by omega
       simp[vN,hlt,this] at hok ⊢
       exact hok
      ·have:(cZ n f l a).2.1=((cZ n f l a).2.1.natAbs:Int):=by omega
       simp[vN,hlt] at hok ⊢
       exact⟨this,hok⟩
    ·simp only[o]
     cases ht:nU (cZ n f l a) with
     | false =>
      have:=dW (cZ n f l a)
      simp[this,ul]
     | true =>
      have hz:=vv e3
      have hb:=MV (n:=((qA (cZ n f l a)).size:Int)) (by omega) (by omega)
      have hok:ao (vN ((qA (cZ n f l a)).size:Int))=true:=Ct (by omega) (by omega)
      rw[e5 ht]
      simp[v0,hb,hok]
end
def gh (f:List aa) (l:List ac):ab:=let v:=cZ f.length f l ((f.length:Int) - 1); if v.1=0 then vN 0 else v
def Dn (f:List aa) (l:List ac):ab:=if eH f=true then(if fU l=true then gh f l else vE 3) else vE 3
section
variable {f:List aa} {l:List ac} (hl:l.length≤10000000) (hvs : ∀ c∈l,c.2.1.2.2.1.size≤9223372036854775807) (hf:f.length≤10000000) (hs : ∀ x∈f,x.2.2.1.2.2.1.size≤9223372036854775807) (hkl : ∀ x∈f,x.2.2.2.2.2.1.length≤10000000)
include hl hvs hf hs hkl
theorem VX (h:fU l=true):l.length≤1000:=by
 unfold fU at h
 simp only[Bool.and_eq_true,decide_eq_true_eq] at h
 omega
theorem Fq (h1:eH f=true) (h2:fU l=true):fu f ((f.length:Int) - 1) l=some ((cZ f.length f l ((f.length:Int) - 1),()),())∧jE f ((f.length:Int) - 1) l=some ((cZ f.length f l ((f.length:Int) - 1),()),())∧ao (cZ f.length f l ((f.length:Int) - 1))=true:=by
 have hb:cQ (f.length:Int) 1 60=true:=by
  unfold eH at h1
  simp only[Bool.and_eq_true] at h1
  exact h1.1
 have:=bu.1 hb
 exact PS (VX hl hvs hf hs hkl h2) hf (la h1) (iw h2) f.length _ (by omega) (by omega) (by omega)
theorem VY:wx f l=some ((Dn f l,()),()):=by
 rw[VJ,lx hf hs hkl,Option.bind_some]
 unfold Dn
 cases h1:eH f with
 | false=>simp[dU]
 | true =>
  rw[vx hl hvs,Option.bind_some]
  cases h2:fU l with
  | false=>simp[dU]
  | true =>
   obtain⟨e1,e2,e3⟩:=Fq hl hvs hf hs hkl h1 h2
   rw[kH (by omega) (by omega),e1]
   unfold gh
   have hb:bnd 0=vN 0:=by decide
   by_cases h0:(cZ f.length f l ((f.length:Int) - 1)).1=0 <;> simp[h0,kO,hb]
theorem MW (h1:eH f=true) (h2:fU l=true):tY f l=some ((gh f l,()),()):=by
 obtain⟨e1,e2,e3⟩:=Fq hl hvs hf hs hkl h1 h2
 rw[VD,kH (by omega) (by omega),e2]
 unfold gh
 by_cases h0:(cZ f.length f l ((f.length:Int) - 1)).1=0 <;> simp[h0,jL]
theorem VZ:QN f l=some ((Dn f l,()),()):=by
 rw[VK,jx hf hs hkl,Option.bind_some]
 unfold Dn
 cases h1:eH f with
 | false=>simp[gc]
 | true =>
  rw[qD hl hvs,Option.bind_some]
  cases h2:fU l with
  | false=>simp[gc]
  | true=>simp[MW hl hvs hf hs hkl h1 h2]
end
end Go.Proofs.YtnodjiikdgmeaaaGreatDoor.Abs
