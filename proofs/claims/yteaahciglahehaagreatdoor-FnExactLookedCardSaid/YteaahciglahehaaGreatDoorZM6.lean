/- What a formula says: both sides. -/
import Derived.Test.YteaahciglahehaaGreatDoorZM5
set_option linter.unusedVariables false
set_option linter.unusedSimpArgs false
set_option linter.unusedSectionVars false
namespace Go.Proofs.YteaahciglahehaaGreatDoor.Abs
open Go
def dJ (a:ag) (r:ao):Bool:=cg r.1 a.1.1 a.2.1.1 && cg r.2.1 a.1.2.1 a.2.1.2.1
def de (x:aa):ag:=if x.1=2 then(x.2.2.2.1.1,x.2.2.2.1.1,()) else(x.2.2.2.1.1,x.2.2.2.2.1.1,())
theorem rf (r:ao) (a:ag):pC r a=some ((dJ a r,()),()):=by
 rw[Nl]
 unfold dJ
 simp only[jL,Option.bind_some]
 cases cg r.1 a.1.1 a.2.1.1 <;> simp
theorem wv (a:ag) (r:ao):pG a r=some ((dJ a r,()),()):=by
 rw[Nt]
 unfold dJ
 simp only[ge,Option.bind_some]
 cases cg r.1 a.1.1 a.2.1.1 <;> simp
theorem Av (x:aa):jI x=some ((de x,()),()):=by
 rw[zQ]
 unfold de
 by_cases h:x.1=2 <;> simp[h]
def iT (l:List ah) (a:ag):List ab:=(l.filter fun c=>dJ a c.1).map fun c=>c.2.1
def jy (ev:Int→ab) (f:List aa) (l:List ah):List Int→List ab
 | []=>[]
 | k :: ks=>(if(fQ f k).1=3 then iT l (de (fQ f k)) else [ev k])++jy ev f l ks
def Yf (op:Int) (n:Int) (kid:Nat→ab) (args:List ab):ab :=
 if op=5 then(if eX (kid 0)=true then(if(kid 0).2.1≠0 then kid 1 else if n > 2 then kid 2 else vB false) else gT (kid 0))
 else if op=8 then(if eX (kid 0)=true then vB (!decide ((kid 0).2.1≠0)) else gT (kid 0))
 else if op=9 then(if cH (kid 0)=true then vN ((kid 0).2.1.natAbs:Int) else gT (kid 0))
 else if op=10 then(if nJ (kid 0)=true then vN ((ra (kid 0)).size:Int) else gT (kid 0))
 else Ek op args
def ZI (op:Int) (a b:ab):ab:=if op=1 then jM a b else if op=2 then Bs a b else if op=3 then I8 a b else if op=4 then I6 a b else if op=5 then Bx a b else Bz op a b
def cI:Nat→List aa→List ah→Int→ab
 | 0,_,_,_=>v0
 | n+1,f,l,k =>
  let x:=fQ f k
  let kid:=fun i:Nat=>cI n f l (x.2.2.2.2.2.1.getD i 0)
  if x.1=1 then x.2.2.1 else if x.1=2 then fJ l x.2.2.2.1.1 else if x.1=3 then vE 2 else if x.1=4 then F3 (kid 0)
  else if x.1=6 then Yf x.2.1 (kl x) kid (jy (cI n f l) f l x.2.2.2.2.2.1) else ZI x.2.1 (kid 0) (kid 1)
section
variable {f:List aa} {l:List ah} (hl:l.length≤1000) (hf:f.length≤10000000)
include hl hf
theorem ww {k:Int} {i:Int} {a:ag} : ∀(ys pre:List ah) (acc:List ab),l=pre++ys→acc.length+ys.length≤1000000→jK f k l i (pre.length:Int) acc a.1 a.2.1=nc f k l (IntKind.i64.wrap (i+1)) (acc++iT ys a)
 | [],pre,acc,he,hb=>by
  rw[Ak,aA (bj he)]
  simp[iT]
 | y :: ys,pre,acc,he,hb=>by
  have hb':acc.length+(ys.length+1)≤1000000:=by simpa using hb
  rw[Ak,aB (bu he),br he,rf,Option.bind_some,aJ he (by omega)]
  show(if dJ a y.1=true then _ else _)=_
  cases ha:dJ a y.1
  ·rw[if_neg (by decide),ww ys _ acc (az he) (by omega)]
   simp[iT,ha]
  ·rw[if_pos rfl,br he,bd (LV (by simp only[List.length_singleton]; omega)),ww ys _ _ (az he) (by simp only[List.length_append,List.length_singleton]; omega)]
   simp[iT,ha]
theorem rV {k:Int} {x:aa} (hk0:0≤k) (hk:f[k.toNat]? = some x) {ks:List Int} {i:Int} : ∀(ys pre:List ah) (acc:List ab),l=pre++ys→acc.length+ys.length≤1000000→iP f l k ks (ks.length:Int) i l (l.length:Int) (pre.length:Int) acc=ke f l ks (ks.length:Int) (IntKind.i64.wrap (i+1)) (acc++iT ys (de x))
 | [],pre,acc,he,hb=>by
  rw[xI,aA (bj he)]
  simp[iT]
 | y :: ys,pre,acc,he,hb=>by
  have hb':acc.length+(ys.length+1)≤1000000:=by simpa using hb
  rw[xI,aB (bu he),br he,bV hk0 hk,Av,Option.bind_some,wv,Option.bind_some,aJ he (by omega)]
  show(if dJ (de x) y.1=true then _ else _)=_
  cases ha:dJ (de x) y.1
  ·rw[if_neg (by decide),rV hk0 hk ys _ acc (az he) (by omega)]
   simp[iT,ha]
  ·rw[if_pos rfl,bd (LV (by simp only[List.length_singleton]; omega)),rV hk0 hk ys _ _ (az he) (by simp only[List.length_append,List.length_singleton]; omega)]
   simp[iT,ha]
omit hf in
theorem BB (a:ag):(iT l a).length≤1000:=by
 unfold iT
 rw[List.length_map]
 exact Nat.le_trans (List.length_filter_le _ _) hl
theorem wx {k:Int} {x:aa} {ev:Int→ab} (hk0:0≤k) (hk:f[k.toNat]? = some x) (hkl:x.2.2.2.2.2.1.length≤100) (hev : ∀ j∈x.2.2.2.2.2.1,0≤j∧j < f.length∧eT f j l=some ((ev j,()),())) :
  ∀(ys pre:List Int) (acc:List ab),x.2.2.2.2.2.1=pre++ys→acc.length≤pre.length*1000→nc f k l (pre.length:Int) acc=some ((acc++jy ev f l ys,()),())
 | [],pre,acc,he,hb=>by
  rw[B5,bV hk0 hk,aA (bj he)]
  simp[jy]
 | y :: ys,pre,acc,he,hb=>by
  have hlen:pre.length < 100:=by
   rw[he,List.length_append,List.length_cons] at hkl
   omega
  obtain⟨y0,y1,y2⟩:=hev y (by rw[he]; simp)
  obtain⟨z,hz⟩ : ∃ z,f[y.toNat]? = some z:=⟨f[y.toNat]'(by omega),List.getElem?_eq_getElem _⟩
  have hnz:fQ f y=z:=by
   unfold fQ
   rw[List.getD_eq_getElem?_getD,hz]
   rfl
  rw[B5,bV hk0 hk,aB (bu he),bV hk0 hk,br he,bV y0 hz]
  unfold jy
  rw[hnz]
  by_cases h3:z.1=3
  ·rw[if_neg (by simp[h3]),if_pos h3,show jK f k l (pre.length:Int) 0 acc z.2.2.2.1.1 z.2.2.2.2.1.1=jK f k l (pre.length:Int) (([]:List ah).length:Int) acc (z.2.2.2.1.1,z.2.2.2.2.1.1,()).1 (z.2.2.2.1.1,z.2.2.2.2.1.1,()).2.1 from rfl,ww hl hf l [] acc rfl (by omega),aJ he (by omega),wx hk0 hk hkl hev ys _ _ (az he)]
   ·have ha:de z=(z.2.2.2.1.1,z.2.2.2.2.1.1,()):=by
     unfold de
     rw[if_neg (by omega)]
    rw[ha]
    simp
   ·have:=BB hl (z.2.2.2.1.1,z.2.2.2.2.1.1,())
    simp only[List.length_append,List.length_singleton]
    omega
  ·rw[if_pos (by simp[h3]),if_neg h3,bV hk0 hk,br he,y2,Option.bind_some,bd (LV (by simp only[List.length_singleton]; omega)),aJ he (by omega),wx hk0 hk hkl hev ys _ _ (az he)]
   ·simp
   ·simp only[List.length_append,List.length_singleton]
    omega
theorem rX {x:aa} {ev:Int→ab} (hkl:x.2.2.2.2.2.1.length≤100) (hev : ∀ j∈x.2.2.2.2.2.1,0≤j∧j < f.length∧jq f j l=some ((ev j,()),())) :
  ∀(ys pre:List Int) (acc:List ab),x.2.2.2.2.2.1=pre++ys→acc.length≤pre.length*1000→ke f l x.2.2.2.2.2.1 (x.2.2.2.2.2.1.length:Int) (pre.length:Int) acc=some ((acc++jy ev f l ys,()),())
 | [],pre,acc,he,hb=>by
  rw[xA,aA (bj he)]
  simp[jy]
 | y :: ys,pre,acc,he,hb=>by
  have hlen:pre.length < 100:=by
   rw[he,List.length_append,List.length_cons] at hkl
   omega
  obtain⟨y0,y1,y2⟩:=hev y (by rw[he]; simp)
  obtain⟨z,hz⟩ : ∃ z,f[y.toNat]? = some z:=⟨f[y.toNat]'(by omega),List.getElem?_eq_getElem _⟩
  have hnz:fQ f y=z:=by
   unfold fQ
   rw[List.getD_eq_getElem?_getD,hz]
   rfl
  rw[xA,aB (bu he),br he,bV y0 hz]
  unfold jy
  rw[hnz]
  by_cases h3:z.1=3
  ·rw[if_neg (by simp[h3]),if_pos h3,show iP f l y x.2.2.2.2.2.1 (x.2.2.2.2.2.1.length:Int) (pre.length:Int) l (l.length:Int) 0 acc=iP f l y x.2.2.2.2.2.1 (x.2.2.2.2.2.1.length:Int) (pre.length:Int) l (l.length:Int) (([]:List ah).length:Int) acc from rfl,rV hl hf y0 hz l [] acc rfl (by omega),aJ he (by omega),rX hkl hev ys _ _ (az he)]
   ·simp
   ·have:=BB hl (de z)
    simp only[List.length_append,List.length_singleton]
    omega
  ·rw[if_pos (by simp[h3]),if_neg h3,y2,Option.bind_some,bd (LV (by simp only[List.length_singleton]; omega)),aJ he (by omega),rX hkl hev ys _ _ (az he)]
   ·simp
   ·simp only[List.length_append,List.length_singleton]
    omega
omit hf in
theorem KQ {ev:Int→ab} : ∀ ks:List Int,(jy ev f l ks).length≤ks.length*1001
 | []=>by simp[jy]
 | k :: ks=>by
  have:=KQ (ev:=ev) ks
  have h:=BB hl (de (fQ f k))
  unfold jy
  rw[List.length_append,List.length_cons]
  split
  ·omega
  ·rw[List.length_singleton]
   omega
omit hl hf in
theorem NW {ev:Int→ab} (hv : ∀ c∈l,ax c.2.1=true) : ∀ ks:List Int,(∀ j∈ks,ax (ev j)=true) → ∀ v∈jy ev f l ks,ax v=true
 | [],_,v,h=>by cases h
 | k :: ks,he,v,h=>by
  unfold jy at h
  rcases List.mem_append.1 h with h | h
  ·split at h
   ·unfold iT at h
    obtain⟨c,hc,rfl⟩:=List.mem_map.1 h
    exact hv c (List.mem_filter.1 hc).1
   ·rw[List.mem_singleton.1 h]
    exact he k (List.mem_cons_self ..)
  ·exact NW hv ks (fun j hj=>he j (List.mem_cons_of_mem _ hj)) v h
theorem NX {x:aa} (h:dE x=true):(x.1=1∧ax x.2.2.1=true)∨x.1=2∨x.1=3∨(x.1=4∧kl x=1)∨(x.1=5∧kl x=2∧cg x.2.1 1 11=true)∨(x.1=6∧oq x.2.1 (kl x)=true):=by
 unfold dE at h
 by_cases h1:x.1=1
 ·rw[if_pos h1] at h
  simp only[Bool.and_eq_true] at h
  exact .inl ⟨h1,h.1.1.2⟩
 rw[if_neg h1] at h
 by_cases h2:x.1=2
 ·exact .inr (.inl h2)
 rw[if_neg h2] at h
 by_cases h3:x.1=3
 ·exact .inr (.inr (.inl h3))
 rw[if_neg h3] at h
 by_cases h4:x.1=4
 ·rw[if_pos h4] at h
  simp only[Bool.and_eq_true,decide_eq_true_eq] at h
  exact .inr (.inr (.inr (.inl ⟨h4,h.2⟩)))
 rw[if_neg h4] at h
 by_cases h5:x.1=5
 ·rw[if_pos h5] at h
  simp only[Bool.and_eq_true,decide_eq_true_eq] at h
  exact .inr (.inr (.inr (.inr (.inl ⟨h5,h.2,h.1.1.1.1⟩))))
 rw[if_neg h5] at h
 by_cases h6:x.1=6
 ·rw[if_pos h6] at h
  simp only[Bool.and_eq_true,decide_eq_true_eq] at h
  exact .inr (.inr (.inr (.inr (.inr ⟨h6,h.1.1.1⟩))))
 rw[if_neg h6] at h
 cases h
theorem NY {op k:Int} (h:oq op k=true):(op=5∧(k=2∨k=3))∨((op=1∨op=2∨op=3∨op=4∨op=6∨op=7)∧1≤k∧k≤10)∨((op=8∨op=9∨op=10)∧k=1):=by
 unfold oq at h
 by_cases h5:op=5
 ·rw[if_pos h5] at h
  simp only[Bool.or_eq_true,decide_eq_true_eq] at h
  exact .inl ⟨h5,h⟩
 ·rw[if_neg h5] at h
  split at h
  ·rename_i h7
   have:=bw.1 h7
   have:=bw.1 h
   exact .inr (.inl ⟨by omega,by omega⟩)
  ·split at h
   ·rename_i h8
    have:=bw.1 h8
    simp only[decide_eq_true_eq] at h
    exact .inr (.inr ⟨by omega,h⟩)
   ·cases h
omit hl hf in
theorem Vt {v:ab} (h:cH v=true):(if v.2.1 < IntKind.i64.wrap (0 - v.2.1) then IntKind.i64.wrap (0 - v.2.1) else v.2.1)=(v.2.1.natAbs:Int):=by
 have:=cu h
 rw[wr (by omega) (by omega)]
 split <;> omega
omit hl hf in
theorem NZ {n:Int} (h0 : -1000000000000000≤n) (h1:n≤1000000000000000):bnd n=vN n:=by
 unfold bnd
 rw[if_pos (bw.2 ⟨h0,h1⟩)]
theorem Ri (A : ∀(i:Nat) (x:aa),f[i]? = some x→mE f i x) (hv : ∀ c∈l,ax c.2.1=true) : ∀(n:Nat) (k:Int),0≤k→k < n→k < f.length →
  eT f k l=some ((cI n f l k,()),())∧jq f k l=some ((cI n f l k,()),())∧ax (cI n f l k)=true
 | 0,k,h0,h1,_=>by omega
 | n+1,k,h0,h1,h2=>by
  obtain⟨x,hx⟩ : ∃ y,f[k.toNat]? = some y:=⟨f[k.toNat]'(by omega),List.getElem?_eq_getElem _⟩
  have hst:=A _ _ hx
  have hnx:fQ f k=x:=by
   unfold fQ
   rw[List.getD_eq_getElem?_getD,hx]
   rfl
  have hk : ∀ j∈x.2.2.2.2.2.1,eT f j l=some ((cI n f l j,()),())∧jq f j l=some ((cI n f l j,()),())∧ax (cI n f l j)=true:=fun j hj=>by
   have:=hst.2 j hj
   exact Ri A hv n j this.1 (by omega) (by omega)
  rw[SF,W3,bV h0 hx,bV h0 hx]
  unfold cI
  simp only[hnx]
  rcases NX hl hf hst.1 with⟨k1,ho⟩ | k2 | k3 | ⟨k4,hkl⟩ | ⟨k5,hkl,hop⟩ | ⟨k6,hop⟩
  ·simp[k1,ho]
  ·simp[k2,NO (xs:=l) (by omega),Ts (xs:=l) (by omega),F8 hv]
  ·simp[k3,dA,il,oJ (n:=2) (by decide) (by decide)]
  ·obtain⟨a,ha⟩ : ∃ a,x.2.2.2.2.2.1=[a]:=List.length_eq_one_iff.1 (by unfold kl at hkl; omega)
   obtain⟨e1,e2,e3⟩:=hk a (by rw[ha]; simp)
   have hi : ∀(d:Int) (g:Int→Option ((ab×Unit)×Unit)),ix [a] 0 d g=g a:=fun d g=>bV (by decide) rfl
   simp[k4,ha,hi,e1,e2,E7 (co e3),Qa (co e3),aal]
  ·obtain⟨a,b,ha⟩ : ∃ a b,x.2.2.2.2.2.1=[a,b]:=by
    cases hq:x.2.2.2.2.2.1 with
    | nil=>unfold kl at hkl; rw[hq] at hkl; simp at hkl
    | cons a t=>cases t with
     | nil=>unfold kl at hkl; rw[hq] at hkl; simp at hkl
     | cons b t=>cases t with
      | nil=>exact⟨a,b,rfl⟩
      | cons c t=>unfold kl at hkl; rw[hq] at hkl; simp at hkl; omega
   obtain⟨e1,e2,e3⟩:=hk a (by rw[ha]; simp)
   obtain⟨g1,g2,g3⟩:=hk b (by rw[ha]; simp)
   have hi : ∀(d:Int) (g:Int→Option ((ab×Unit)×Unit)),ix [a,b] 0 d g=g a:=fun d g=>bV (by decide) rfl
   have hj : ∀(d:Int) (g:Int→Option ((ab×Unit)×Unit)),ix [a,b] 1 d g=g b:=fun d g=>bV (by decide) rfl
   have b1:=co e3
   have b2:=co g3
   simp only[k5,ha,hi,hj,e1,e2,g1,g2,Option.bind_some,I7 b1 b2,Rb b1 b2,W9 b1 b2,NC b1 b2,Vi b1 b2,Vj b1 b2,Xa b1 b2,Xb b1 b2,Tj b1 b2,Tk b1 b2,Xd b1 b2,Xe b1 b2,List.getD_cons_zero,List.getD_cons_succ]
   unfold ZI
   by_cases o1:x.2.1=1
   ·simp[o1,HU]
   by_cases o2:x.2.1=2
   ·simp[o2,Ye]
   by_cases o3:x.2.1=3
   ·simp[o3,aaj]
   by_cases o4:x.2.1=4
   ·simp[o4,aak]
   by_cases o5:x.2.1=5
   ·simp[o5,ZG]
   simp[o1,o2,o3,o4,o5,ZH]
  ·have hcs:=NY hl hf hop
   have hn10:x.2.2.2.2.2.1.length≤10:=by unfold kl at hcs; omega
   have hne:1≤x.2.2.2.2.2.1.length:=by unfold kl at hcs; omega
   obtain⟨a,t,hat⟩ : ∃ a t,x.2.2.2.2.2.1=a :: t:=by
    cases hq:x.2.2.2.2.2.1 with
    | nil=>rw[hq] at hne; simp at hne
    | cons a t=>exact⟨a,t,rfl⟩
   obtain⟨e1,e2,e3⟩:=hk a (by rw[hat]; simp)
   have hi : ∀(d:Int) (g:Int→Option ((ab×Unit)×Unit)),ix x.2.2.2.2.2.1 0 d g=g a:=fun d g=>bV (by decide) (by rw[hat]; rfl)
   have hg0:x.2.2.2.2.2.1.getD 0 0=a:=by rw[hat]; rfl
   rw[SL,S5,bV h0 hx]
   have b1:=co e3
   unfold Yf
   rcases hcs with⟨o5,hk2⟩ | ⟨oo,_⟩ | ⟨oo,_⟩
   ·
    have hm : ∀ j:Nat,j < x.2.2.2.2.2.1.length → ∃ c,x.2.2.2.2.2.1[j]? = some c∧x.2.2.2.2.2.1.getD j 0=c∧eT f c l=some ((cI n f l c,()),())∧jq f c l=some ((cI n f l c,()),())∧ax (cI n f l c)=true:=fun j hj=>by
     refine⟨x.2.2.2.2.2.1[j],List.getElem?_eq_getElem _,by simp[List.getD_eq_getElem?_getD,hj],hk _ (List.getElem_mem _)⟩
    rw[S1]
    simp only[k6,o5,hi,hg0,e1,e2,Option.bind_some,uX e3,sS b1,fY b1,tB,uR,beq_self_eq_true,if_true]
    unfold kl at hk2
    cases ht:eX (cI n f l a) with
    | false =>
     have:=dk (cI n f l a)
     simp[this,uW]
    | true =>
     obtain⟨c,c1,c2,c3,c4,c5⟩:=hm 1 (by omega)
     have hi1 : ∀(d:Int) (g:Int→Option ((ab×Unit)×Unit)),ix x.2.2.2.2.2.1 1 d g=g c:=fun d g=>bV (by decide) c1
     simp only[if_true,hi1,c2,c3,c4,Option.bind_some]
     by_cases hz:(cI n f l a).2.1=0
     ·rcases hk2 with h22 | h33
      ·have h22':x.2.2.2.2.2.1.length=2:=by omega
       simp[hz,v0,kl,h22',Yd]
      ·obtain⟨d,d1,d2,d3,d4,d5⟩:=hm 2 (by omega)
       have hi2 : ∀(z:Int) (g:Int→Option ((ab×Unit)×Unit)),ix x.2.2.2.2.2.1 2 z g=g d:=fun z g=>bV (by decide) d1
       have h33':x.2.2.2.2.2.1.length=3:=by omega
       have d2':x.2.2.2.2.2.1[2]?.getD 0=d:=by rw[←List.getD_eq_getElem?_getD]; exact d2
       have d6 : ∀ hh:2 < x.2.2.2.2.2.1.length,x.2.2.2.2.2.1[2]'hh=d:=fun hh=>by
        rw[List.getElem?_eq_getElem hh] at d1
        exact Option.some.inj d1
       simp[hz,v0,kl,h33',hi2,d6,d3,d4,d5]
     ·have c2':x.2.2.2.2.2.1[1]?.getD 0=c:=by rw[←List.getD_eq_getElem?_getD]; exact c2
      simp[hz,v0,c5,c2']
   ·
    have h5:x.2.1≠5:=by omega
    have h8:x.2.1≠8:=by omega
    have h9:x.2.1≠9:=by omega
    have h10:x.2.1≠10:=by omega
    have ea:=wx hl hf (ev:=cI n f l) h0 hx (by omega) (fun j hj=>⟨(hst.2 j hj).1,by have:=(hst.2 j hj).2.1; omega,(hk j hj).1⟩) x.2.2.2.2.2.1 [] [] rfl (by simp)
    have eb:=rX hl hf (x:=x) (ev:=cI n f l) (by omega) (fun j hj=>⟨(hst.2 j hj).1,by have:=(hst.2 j hj).2.1; omega,(hk j hj).2.1⟩) x.2.2.2.2.2.1 [] [] rfl (by simp)
    have hal:=KQ hl (f:=f) (ev:=cI n f l) x.2.2.2.2.2.1
    have hav:=NW (f:=f) (ev:=cI n f l) hv x.2.2.2.2.2.1 (fun j hj=>(hk j hj).2.2)
    simp only[List.nil_append] at ea eb
    generalize jy (cI n f l) f l x.2.2.2.2.2.1=args at ea eb hal hav ⊢
    have ea':IG f k l=some ((args,()),()):=by rw[SJ]; exact ea
    have eb':cE f x l=some ((args,()),()):=by rw[Nw]; exact eb
    have hlen:args.length≤100000000:=by omega
    simp only[ea',eb',Option.bind_some,Tx hlen hav oo,NS hlen hav,Tw hlen hav,NT hlen hav]
    have hfo:=Xj (op:=x.2.1) hav hlen
    unfold Ek at hfo ⊢
    rcases oo with o | o | o | o | o | o <;> simp[k6,o] <;> simpa[o] using hfo
   ·
    simp only[k6,hi,hg0,e1,e2,Option.bind_some]
    rw[S3]
    obtain⟨t,e4,e5⟩:=Bv b1
    simp only[uX e3,Bw b1,uR,kt,sS b1,fm b1,e4,fY b1,tB,jw,Option.bind_some,show((0,0,({data := #[]}:ByteArray),()):ab)=v0 from rfl,I7 b1 (b:=v0) (by decide)]
    rcases oo with o | o | o
    ·simp only[o]
     cases ht:eX (cI n f l a) with
     | false =>
      have:=dk (cI n f l a)
      simp[this,uW]
     | true=>simp[v0,Yd]
    ·simp only[o]
     have h0n:cH v0=true:=by decide
     cases ht:cH (cI n f l a) with
     | false =>
      have:=dk (cI n f l a)
      have ha:jM (cI n f l a) v0=gT (cI n f l a):=by
       unfold jM ry
       rw[if_neg (by rw[ht]; decide)]
      simp[ha,this,uW]
     | true =>
      have hr:=cu ht
      have ha:jM (cI n f l a) v0=vN (cI n f l a).2.1:=by
       unfold jM ry
       rw[if_pos ht,if_pos h0n]
       show bnd ((cI n f l a).2.1+0)=_
       rw[Int.add_zero,NZ hr.1 hr.2]
      have hN:ax (vN (cI n f l a).2.1)=true:=Du hr.1 hr.2
      have hneg:F3 (vN (cI n f l a).2.1)=vN (-(cI n f l a).2.1):=by
       unfold F3 Bs ry
       rw[if_pos h0n,if_pos (by unfold cH; rw[hN]; rfl)]
       show bnd (0 - (cI n f l a).2.1)=_
       rw[NZ (by omega) (by omega)]
       congr 1
       omega
      have habs:=Vt ht
      have hok:ax (vN ((cI n f l a).2.1.natAbs:Int))=true:=Du (by omega) (by omega)
      simp only[ha,habs,E7 (co hN),hneg,Option.bind_some]
      by_cases hlt:(cI n f l a).2.1 < 0
      ·have:(-(cI n f l a).2.1)=((cI n f l a).2.1.natAbs:Int):=by omega
       simp[vN,hlt,this] at hok ⊢
       exact hok
      ·have:(cI n f l a).2.1=((cI n f l a).2.1.natAbs:Int):=by omega
       simp[vN,hlt] at hok ⊢
       exact⟨this,hok⟩
    ·simp only[o]
     cases ht:nJ (cI n f l a) with
     | false =>
      have:=dk (cI n f l a)
      simp[this,uW]
     | true =>
      have hz:=wm e3
      have hb:=NZ (n:=((ra (cI n f l a)).size:Int)) (by omega) (by omega)
      have hok:ax (vN ((ra (cI n f l a)).size:Int))=true:=Du (by omega) (by omega)
      rw[e5 ht]
      simp[v0,hb,hok]
end
def fK (f:List aa) (l:List ah):ab:=let v:=cI f.length f l ((f.length:Int) - 1); if v.1=0 then vN 0 else v
def L0 (f:List aa) (l:List ah):ab:=if fF f=true then(if lA l=true then fK f l else vE 3) else vE 3
section
variable {f:List aa} {l:List ah} (hl:l.length≤10000000) (hvs : ∀ c∈l,c.2.1.2.2.1.size≤9223372036854775807) (hf:f.length≤10000000) (hs : ∀ x∈f,x.2.2.1.2.2.1.size≤9223372036854775807) (hkl : ∀ x∈f,x.2.2.2.2.2.1.length≤10000000)
include hl hvs hf hs hkl
theorem Xk (h:lA l=true):l.length≤1000:=by
 unfold lA at h
 simp only[Bool.and_eq_true,decide_eq_true_eq] at h
 omega
theorem Ga (h1:fF f=true) (h2:lA l=true):eT f ((f.length:Int) - 1) l=some ((cI f.length f l ((f.length:Int) - 1),()),())∧jq f ((f.length:Int) - 1) l=some ((cI f.length f l ((f.length:Int) - 1),()),())∧ax (cI f.length f l ((f.length:Int) - 1))=true:=by
 have hb:cg (f.length:Int) 1 60=true:=by
  unfold fF at h1
  simp only[Bool.and_eq_true] at h1
  exact h1.1
 have:=bw.1 hb
 exact Ri (Xk hl hvs hf hs hkl h2) hf (np h1) (pM h2) f.length _ (by omega) (by omega) (by omega)
theorem N0:uB f l=some ((L0 f l,()),()):=by
 rw[W0,k8 hf hs hkl,Option.bind_some]
 unfold L0
 cases h1:fF f with
 | false=>simp[dA]
 | true =>
  rw[NN hl hvs,Option.bind_some]
  cases h2:lA l with
  | false=>simp[dA]
  | true =>
   obtain⟨e1,e2,e3⟩:=Ga hl hvs hf hs hkl h1 h2
   rw[fE (by omega) (by omega),e1]
   unfold fK
   have hb:bnd 0=vN 0:=by decide
   by_cases h0:(cI f.length f l ((f.length:Int) - 1)).1=0 <;> simp[h0,kt,hb]
theorem N3 (h1:fF f=true) (h2:lA l=true):uF f l=some ((fK f l,()),()):=by
 obtain⟨e1,e2,e3⟩:=Ga hl hvs hf hs hkl h1 h2
 rw[W8,fE (by omega) (by omega),e2]
 unfold fK
 by_cases h0:(cI f.length f l ((f.length:Int) - 1)).1=0 <;> simp[h0,jw]
end
def hY (c:Nat):al:=if c≤26 then [UInt8.ofNat (64+c)] else [65,UInt8.ofNat (38+c)]
theorem Vu : ∀ c:Fin 53,1≤c.val→c.val≤26→strOfNums ([(IntKind.u8.wrap (IntKind.i64.wrap ((IntKind.i64.wrap (65+(c.val:Int))) - 1)))]:List Int)=ba (hY c.val):=by decide +kernel
theorem Vv : ∀ c:Fin 53,1≤c.val → ¬c.val≤26→strOfNums ([(IntKind.u8.wrap (IntKind.i64.wrap ((IntKind.i64.wrap (65+(IntKind.i64.wrap (Int.tdiv (IntKind.i64.wrap ((c.val:Int) - 1)) 26)))) - 1))),(IntKind.u8.wrap (IntKind.i64.wrap (65+(Int.tmod (IntKind.i64.wrap ((c.val:Int) - 1)) 26))))]:List Int)=ba (hY c.val):=by decide +kernel
theorem Vw : ∀ c:Fin 53,1≤c.val→strOfNums ([(IntKind.u8.wrap (IntKind.i64.wrap (65+(Int.tmod (IntKind.i64.wrap ((c.val:Int) - 1)) 26))))]:List Int)=ba (if c.val≤26 then hY c.val else(hY c.val).drop 1):=by decide +kernel
theorem Vx : ∀ c:Fin 53,1≤c.val→IntKind.i64.wrap (Int.tdiv (IntKind.i64.wrap ((c.val:Int) - 1)) 26)=if c.val≤26 then 0 else 1:=by decide +kernel
theorem E9 {c:Nat} (h1:1≤c) (h2:c≤52):rR (c:Int)=some ((ba (hY c),()),()):=by
 rw[PV,ge]
 simp only[Option.bind_some]
 rw[show cg (c:Int) 1 52=true from bw.2 ⟨by omega,by omega⟩]
 simp only[Bool.not_true,Bool.false_eq_true,if_false]
 by_cases h:c≤26
 ·rw[aB (by omega),Vu ⟨c,by omega⟩ h1 h]
 ·rw[aA (by omega),Vv ⟨c,by omega⟩ h1 h]
theorem wy (c:Nat):1≤(hY c).length∧(hY c).length≤2:=by
 unfold hY
 split <;> simp
theorem Fa {c:Nat} (h1:1≤c) (h2:c≤52):vz (c:Int)=some ((ba (hY c),()),()):=by
 have k1:=Vw ⟨c,by omega⟩ h1
 have k2:=Vx ⟨c,by omega⟩ h1
 have kl:=wy c
 rw[PH,jL]
 simp only[Option.bind_some]
 rw[show cg (c:Int) 1 52=true from bw.2 ⟨by omega,by omega⟩]
 simp only[Bool.not_true,Bool.false_eq_true,if_false]
 simp only at k1 k2
 rw[nk,aB (by omega),k1,k2]
 by_cases h:c≤26
 ·rw[if_pos h,if_pos h,bF (by simp only[List.length_nil]; omega),nk,aA (by decide),List.append_nil]
 ·rw[if_neg h,if_neg h,bF (by simp only[List.length_nil,List.length_drop]; omega),nk,aB (by decide),List.append_nil]
  have k3':strOfNums ([(IntKind.u8.wrap (IntKind.i64.wrap (65+(Int.tmod (IntKind.i64.wrap ((1:Int) - 1)) 26))))]:List Int)=ba [65]:=by decide +kernel
  have k4':IntKind.i64.wrap (Int.tdiv (IntKind.i64.wrap ((1:Int) - 1)) 26)=0:=by decide +kernel
  rw[k3',k4',bF (by simp only[List.length_cons,List.length_nil,List.length_drop]; omega),nk,aA (by decide)]
  congr 3
  unfold hY
  rw[if_neg h]
  rfl
theorem Gb {P:ByteArray→Int→Option ((Int×Unit)×Unit)} {C:Int→Option ((ByteArray×Unit)×Unit)}
  (hP : ∀ x n,P x n=if decide (n≤52)=true then(C n).bind fun z1=>(if(ByteArray.toList z1.1.1 == ByteArray.toList x)=true then some ((n,()),()) else P x (IntKind.i64.wrap (n+1))) else some ((0,()),()))
  (hC : ∀ c:Nat,1≤c→c≤52→C (c:Int)=some ((ba (hY c),()),())) (w:al) : ∀ k n:Nat,n+k=53→1≤n→P (ba w) (n:Int)=some ((((((List.range' n k).find? fun m=>decide (hY m=w)).getD 0:Nat):Int),()),())
 | 0,n,h,_=>by
  rw[hP,aA (by omega)]
  rfl
 | k+1,n,h,h1=>by
  rw[hP,aB (by omega),hC n h1 (by omega)]
  simp only[Option.bind_some,dF,List.range'_succ,List.find?_cons]
  by_cases he:hY n=w
  ·simp[he]
  ·rw[if_neg (by simpa using he),wr (by omega) (by omega)]
   simp only[he,decide_false]
   exact Gb hP hC w k (n+1) (by omega) (by omega)
def kL (w:al):Nat:=((List.range' 1 52).find? fun m=>decide (hY m=w)).getD 0
theorem Qb (w:al):FP (ba w)=some ((((kL w:Nat):Int),()),()):=by
 rw[PW]
 exact Gb (fun x n=>I0) (fun c h1 h2=>E9 h1 h2) w 52 1 rfl (Nat.le_refl _)
theorem Qc (w:al):rP (ba w)=some ((((kL w:Nat):Int),()),()):=by
 rw[PI]
 exact Gb (fun x n=>IZ) (fun c h1 h2=>Fa h1 h2) w 52 1 rfl (Nat.le_refl _)
theorem HW : ∀ m:Fin 53,1≤m.val→kL (hY m.val)=m.val:=by decide +kernel
theorem Vy {w:al} (h:1≤kL w):kL w≤52∧hY (kL w)=w:=by
 unfold kL at h ⊢
 cases hf:(List.range' 1 52).find? fun m=>decide (hY m=w) with
 | none=>rw[hf] at h; simp at h
 | some m =>
  have h1:=List.find?_some hf
  have h2:=List.mem_of_find?_eq_some hf
  rw[List.mem_range'_1] at h2
  simp only[Option.getD_some]
  exact⟨by omega,by simpa using h1⟩
def rY (b:Bool):al:=if b=true then [36] else []
def Aw (c r:Nat) (fc fr:Bool):al:=rY fc++(hY c++(rY fr++Lib.decDigits r))
def nD (p:cb):al:=Aw p.1.1.toNat p.1.2.1.toNat p.2.1 p.2.2.1
theorem xU {r:ao}:bS r=true↔(1≤r.1∧r.1≤52)∧1≤r.2.1∧r.2.1≤99:=by
 unfold bS
 rw[Bool.and_eq_true,bw,bw]
theorem uY {r:Nat} (h:r≤99):(Lib.decDigits r).length≤2:=HI 1 r (by omega)
theorem oK (p:cb):m8 p=some ((if bS p.1=true then ba (nD p) else ba [],()),()):=by
 rw[LC,tz]
 simp only[Option.bind_some]
 cases hr:bS p.1 with
 | false=>rfl
 | true =>
  simp only[Bool.not_true,Bool.false_eq_true,if_false,if_true]
  obtain⟨⟨c,r,u⟩,fc,fr,u'⟩:=p
  obtain⟨⟨h1,h2⟩,h3,h4⟩:=xU.1 hr
  simp only at h1 h2 h3 h4 ⊢
  obtain⟨c,rfl⟩ : ∃ n:Nat,c=n:=⟨c.toNat,by omega⟩
  obtain⟨r,rfl⟩ : ∃ n:Nat,r=n:=⟨r.toNat,by omega⟩
  have kc:=wy c
  have kr:=uY (r:=r) (by omega)
  have e1:rR (c:Int)=some ((ba (hY c),()),()):=E9 (by omega) (by omega)
  have e2:kF (r:Int)=some ((ba (Lib.decDigits r),()),()):=by rw[yB (by omega) (by omega),pg]
  unfold nD Aw
  simp only[Int.toNat_natCast]
  cases fc <;> cases fr <;> simp only[e1,e2,Option.bind_some,if_true,if_false,Bool.false_eq_true,rY]
  all_goals
   repeat rw[bF (by first | omega | (simp only[List.length_append,List.length_cons,List.length_nil]; omega))]
   simp
theorem tU (p:cb):qw p=some ((if bS p.1=true then ba (nD p) else ba [],()),()):=by
 rw[Lw,mD]
 simp only[Option.bind_some]
 cases hr:bS p.1 with
 | false=>rfl
 | true =>
  simp only[Bool.not_true,Bool.false_eq_true,if_false,if_true]
  obtain⟨⟨c,r,u⟩,fc,fr,u'⟩:=p
  obtain⟨⟨h1,h2⟩,h3,h4⟩:=xU.1 hr
  simp only at h1 h2 h3 h4 ⊢
  obtain⟨c,rfl⟩ : ∃ n:Nat,c=n:=⟨c.toNat,by omega⟩
  obtain⟨r,rfl⟩ : ∃ n:Nat,r=n:=⟨r.toNat,by omega⟩
  have kc:=wy c
  have kr:=uY (r:=r) (by omega)
  have e1:vz (c:Int)=some ((ba (hY c),()),()):=Fa (by omega) (by omega)
  have e2:nX (r:Int)=some ((ba (Lib.decDigits r),()),()):=by rw[KI (by omega) (by omega),pg]
  unfold nD Aw
  simp only[Int.toNat_natCast]
  cases fc <;> cases fr <;> simp only[e1,e2,Option.bind_some,if_true,if_false,Bool.false_eq_true,rY]
  all_goals
   repeat rw[bF (by first | omega | (simp only[List.length_append,List.length_cons,List.length_nil]; omega))]
   simp
theorem Fb {w:al} (hw:w.length≤18) : ∀(ys pre:al),w=pre++ys→pre.all dt=true→pI (ba w) (bE 0 pre:Nat) (pre.length:Int)=some ((if ys.all dt=true then((bE 0 w:Nat):Int) else 0,ys.all dt,()),())
 | [],pre,h,hp=>by
  rw[List.append_nil] at h
  subst h
  rw[Da,aA (by rw[aQ]; omega)]
  rfl
 | y :: ys,pre,h,hp=>by
  have hl:pre.length < w.length:=by rw[h]; simp
  rw[Da,aB (by rw[aQ]; omega),la h]
  by_cases h1:y.toNat < 48
  ·have hd:dt y=false:=by simp[dt]; omega
   rw[aB (by omega)]
   simp[hd]
  ·rw[aA (by omega),la h]
   by_cases h2:57 < y.toNat
   ·have hd:dt y=false:=by simp[dt]; omega
    rw[aB (by omega)]
    simp[hd]
   ·have hd:dt y=true:=by simp[dt]; omega
    rw[aA (by omega),la h]
    have hv:=Ej pre 0 hp
    have hv2:10 ^ pre.length≤10 ^ 17:=Nat.pow_le_pow_right (by decide) (by omega)
    have hv3:bE 0 pre < 100000000000000000:=by
     rw[Nat.zero_add,Nat.one_mul] at hv
     exact Nat.lt_of_lt_of_le hv hv2
    clear hv hv2
    have e1:IntKind.u8.wrap ((y.toNat:Int) - 48)=((y.toNat - 48:Nat):Int):=by rw[wr8 (by omega) (by omega)]; omega
    have w1:IntKind.i64.wrap (((bE 0 pre:Nat):Int)*10)=((bE 0 pre:Nat):Int)*10:=wr (by omega) (by omega)
    have w2:IntKind.i64.wrap ((y.toNat - 48:Nat):Int)=((y.toNat - 48:Nat):Int):=wr (by omega) (by omega)
    rw[e1,w1,w2,wr (n:=((bE 0 pre:Nat):Int)*10+((y.toNat - 48:Nat):Int)) (by omega) (by omega),wr (n:=(pre.length:Int)+1) (by omega) (by omega)]
    have e2:((bE 0 pre:Nat):Int)*10+((y.toNat - 48:Nat):Int)=((bE 0 (pre++[y]):Nat):Int):=by rw[Dr]; omega
    have e3:(pre.length:Int)+1=((pre++[y]).length:Int):=by simp
    rw[e2,e3,Fb hw ys (pre++[y]) (by rw[h]; simp) (by simp[hp,hd])]
    simp[hd]
def cK (w:al) (m:Nat):Bool:=ki w && decide (w.length≤m)
theorem Dw (w:al) {m:Nat} (hm:m≤18):cW (ba w) (m:Int)=some ((if cK w m=true then((bE 0 w:Nat):Int) else 0,cK w m,()),()):=by
 rw[UZ,aQ]
 cases w with
 | nil =>
  rw[aB (by simp)]
  rfl
 | cons y ys =>
  have hlen:(y :: ys:al).length=ys.length+1:=rfl
  rw[aA (by omega)]
  by_cases h:(y :: ys:al).length≤m
  ·have hle:decide ((y :: ys:al).length≤m)=true:=decide_eq_true h
   rw[aA (by omega),re]
   have hl:=Fb (w:=y :: ys) (by omega) (y :: ys) [] rfl rfl
   have hl:pI (ba (y :: ys)) 0 0=_:=hl
   have h0n:decide (1≤(y :: ys:al).length)=true:=decide_eq_true (by omega)
   by_cases h0:y=48
   ·subst h0
    rw[if_pos (by rfl)]
    by_cases h1:ys.length=0
    ·rw[aA (by omega),hl]
     have h1':decide ((48 :: ys:al).length=1)=true:=decide_eq_true (by omega)
     have e:cK (48 :: ys) m=(48 :: ys:al).all dt:=by
      unfold cK ki
      rw[hle,h0n,h1']
      simp
     rw[e]
    ·rw[aB (by omega)]
     have h1':decide ((48 :: ys:al).length=1)=false:=decide_eq_false (by omega)
     have e:cK (48 :: ys) m=false:=by
      unfold cK ki
      rw[h1']
      simp
     rw[e]
     rfl
   ·have h0' : ¬((y.toNat:Int) == 48)=true:=by
     simp only[beq_iff_eq]
     intro e
     apply h0
     apply UInt8.toNat_inj.1
     show y.toNat=48
     omega
    rw[if_neg h0',hl]
    have e:cK (y :: ys) m=(y :: ys:al).all dt:=by
     have h2:decide ((y :: ys:al).head? = some 48)=false:=decide_eq_false (by simpa using h0)
     unfold cK ki
     rw[hle,h0n,h2]
     simp
    rw[e]
  ·rw[aB (by omega)]
   have e:cK (y :: ys) m=false:=by
    unfold cK
    rw[decide_eq_false h]
    simp
   rw[e]
   rfl
theorem Gc {w:al} {m:Nat} (h:cK w m=true):Lib.decDigits (bE 0 w)=w∧w.length≤m:=by
 unfold cK at h
 rw[Bool.and_eq_true,decide_eq_true_eq] at h
 exact⟨(Rg w h.1).1,h.2⟩
theorem Dx {u m:Nat} (h:(Lib.decDigits u).length≤m):cK (Lib.decDigits u) m=true:=by
 unfold cK
 rw[wq]
 simpa using h
theorem yF {w:al} (hw:w.length≤281474976710656):iG (ba w) 10 64=some (((cj w).1,(cj w).2,()),()):=by
 rw[Cl]
 show(if(ba w).size≤281474976710656∧(10:Int)=10∧(64:Int)=64 then some (((cj (lb (ba w))).1,(cj (lb (ba w))).2,()),()) else none)=_
 rw[if_pos ⟨by rw[aQ]; exact hw,rfl,rfl⟩,dv]
theorem YG : ∀ r:Fin 10,(cj [UInt8.ofNat (48+r.val)]).1=(r.val:Int):=by decide +kernel
theorem YH : ∀ r:Fin 100,(cj [UInt8.ofNat (48+r.val / 10),UInt8.ofNat (48+r.val % 10)]).1=(r.val:Int):=by decide +kernel
theorem Vz {r:Nat} (h:r < 100):(cj (Lib.decDigits r)).1=(r:Int):=by
 by_cases h1:r < 10
 ·rw[Lib.decDigits_one h1]
  exact YG ⟨r,h1⟩
 ·rw[Lib.decDigits_two h1 h]
  exact YH ⟨r,h⟩
theorem ZJ:(fun c=>([65,66,67,68,69,70,71,72,73,74,75,76,77,78,79,80,81,82,83,84,85,86,87,88,89,90]:al).contains c)=fG:=funext fun c=>Dq (p:=fun c=>([65,66,67,68,69,70,71,72,73,74,75,76,77,78,79,80,81,82,83,84,85,86,87,88,89,90]:al).contains c=fG c) (by decide +kernel) c
def ci (w:al):Bool×al:=(([36]:al).isPrefixOf w,if([36]:al).isPrefixOf w=true then w.drop 1 else w)
theorem KR (w:al):rY (ci w).1++(ci w).2=w:=by
 unfold ci rY
 cases w with
 | nil=>rfl
 | cons c l =>
  by_cases h:c=36
  ·subst h
   simp
  ·have:([36]:al).isPrefixOf (c :: l)=false:=by rw[gG]; simp[h]
   simp[this]
theorem N4 {b:Bool} {w:al} (h:w.head? ≠ some 36):ci (rY b++w)=(b,w):=by
 unfold ci rY
 cases b with
 | true=>simp
 | false =>
  cases w with
  | nil=>rfl
  | cons c l =>
   have h':c≠36:=fun e=>h (by rw[e]; rfl)
   have:([36]:al).isPrefixOf (c :: l)=false:=by rw[gG]; simp[h']
   simp[this]
theorem N5 (w:al):(ci w).2.length≤w.length:=by
 unfold ci
 split <;> simp
def rg (w:al):cb:=((((kL ((ci w).2.takeWhile fG):Nat):Int),(cj (ci ((ci w).2.dropWhile fG)).2).1,()),(ci w).1,(ci ((ci w).2.dropWhile fG)).1,())
theorem KS (p:UInt8→Bool) (l:al):(l.dropWhile p).length≤l.length:=(Dp p l).2.2
theorem ZK {w:al} (hw:w.length≤9223372036854775807):cq (ba w) (⟨#[36]⟩:ByteArray)=some ((ba (ci w).2,(ci w).1,()),()):=tE w [36] hw
theorem N6 {w:al} (hw:w.length≤281474976710656) :
  hJ (ba w)=some ((if bS (rg w).1=true∧nD (rg w)=w then rg w else p0,decide (bS (rg w).1=true∧nD (rg w)=w),()),()):=by
 have l1:=N5 w
 have l2:=KS fG (ci w).2
 have l3:=N5 ((ci w).2.dropWhile fG)
 obtain⟨d1,d2,d3⟩:=Dp fG (ci w).2
 rw[LD,ZK (by omega)]
 simp only[Option.bind_some]
 rw[yD _ _ (by decide +kernel),ZJ]
 simp only[Option.bind_some,aQ]
 rw[wr (by omega) (by omega),show((ci w).2.length:Int) - (((ci w).2.dropWhile fG).length:Int)=(((ci w).2.length - ((ci w).2.dropWhile fG).length:Nat):Int) by omega,HR (by omega),d1,Qb]
 simp only[Option.bind_some]
 rw[fR (by omega),d2,ZK (by omega)]
 simp only[Option.bind_some]
 rw[yF (by omega)]
 simp only[Option.bind_some,tz,oK]
 have e:rg w=((((kL ((ci w).2.takeWhile fG):Nat):Int),(cj (ci ((ci w).2.dropWhile fG)).2).1,()),(ci w).1,(ci ((ci w).2.dropWhile fG)).1,()):=rfl
 rw[←e]
 have e1:(((kL ((ci w).2.takeWhile fG):Nat):Int),(cj (ci ((ci w).2.dropWhile fG)).2).1,())=(rg w).1:=rfl
 rw[e1]
 cases hr:bS (rg w).1 with
 | false=>simp
 | true =>
  simp only[Bool.not_true,Bool.false_eq_true,if_false,if_true,dF,true_and]
  by_cases hp:nD (rg w)=w
  ·simp[hp]
  ·simp[hp]
theorem Rj : ∀ c:Fin 53,1≤c.val→(hY c.val).all fG=true:=by decide +kernel
theorem aam {y:UInt8} (h:fG y=true):y≠36:=by
 rintro rfl
 exact absurd h (by decide)
theorem Yg {y:UInt8} (h:dt y=true):y≠36∧fG y=false:=by
 refine⟨?_,?_⟩
 ·rintro rfl
  exact absurd h (by decide)
 ·simp only[dt,fG,Bool.and_eq_true,decide_eq_true_eq,Bool.and_eq_false_iff,decide_eq_false_iff_not] at h ⊢
  omega
theorem HX (u:Nat) : ∃ y l,Lib.decDigits u=y :: l∧dt y=true:=by
 have h:=wq u
 unfold ki at h
 simp only[Bool.and_eq_true,decide_eq_true_eq] at h
 cases hd:Lib.decDigits u with
 | nil=>rw[hd] at h; simp at h
 | cons y l =>
  rw[hd] at h
  refine⟨y,l,rfl,?_⟩
  have:=h.1.1
  simp only[List.all_cons,Bool.and_eq_true] at this
  exact this.1
theorem YI {c:Nat} (h1:1≤c) (h2:c≤52) (x:al):(hY c++x).head? ≠ some 36:=by
 have h:=Rj ⟨c,by omega⟩ h1
 have hl:=wy c
 simp only at h
 cases hc:hY c with
 | nil=>rw[hc] at hl; simp at hl
 | cons y l =>
  rw[hc] at h
  simp only[List.all_cons,Bool.and_eq_true] at h
  intro e
  simp only[List.cons_append,List.head?_cons,Option.some.injEq] at e
  exact aam h.1 e
theorem N7 {c r:Nat} (h1:1≤c) (h2:c≤52) (fc fr:Bool):(ci (Aw c r fc fr)).1=fc∧(ci (Aw c r fc fr)).2.takeWhile fG=hY c∧(ci ((ci (Aw c r fc fr)).2.dropWhile fG)).1=fr∧(ci ((ci (Aw c r fc fr)).2.dropWhile fG)).2=Lib.decDigits r:=by
 unfold Aw
 rw[N4 (YI h1 h2 _)]
 have hu:=List.all_eq_true.1 (Rj ⟨c,by omega⟩ h1)
 simp only at hu ⊢
 obtain⟨y,l,hy,hd⟩:=HX r
 have hn : ∃ z m,rY fr++Lib.decDigits r=z :: m∧fG z=false:=by
  cases fr with
  | true=>exact⟨36,_,rfl,by decide⟩
  | false=>exact⟨y,l,hy,(Yg hd).2⟩
 obtain⟨z,m,hz,hzu⟩:=hn
 have ht:(rY fr++Lib.decDigits r).takeWhile fG=[]:=by rw[hz]; simp[hzu]
 have hdr:(rY fr++Lib.decDigits r).dropWhile fG=rY fr++Lib.decDigits r:=by rw[hz]; simp[hzu]
 rw[List.takeWhile_append_of_pos hu,List.dropWhile_append_of_pos hu,ht,hdr,List.append_nil,N4 (by rw[hy]; simp only[List.head?_cons,ne_eq,Option.some.injEq]; exact(Yg hd).1)]
 simp
theorem Dy {p:cb} (h:bS p.1=true) : ∃(c r:Nat) (fc fr:Bool),p=(((c:Int),(r:Int),()),fc,fr,())∧1≤c∧c≤52∧1≤r∧r≤99:=by
 obtain⟨⟨c,r,u⟩,fc,fr,u'⟩:=p
 obtain⟨⟨h1,h2⟩,h3,h4⟩:=xU.1 h
 simp only at h1 h2 h3 h4
 refine⟨c.toNat,r.toNat,fc,fr,?_,by omega,by omega,by omega,by omega⟩
 rw[Int.toNat_of_nonneg (by omega),Int.toNat_of_nonneg (by omega)]
theorem YJ {p:cb} (h:bS p.1=true):rg (nD p)=p:=by
 obtain⟨c,r,fc,fr,rfl,h1,h2,h3,h4⟩:=Dy h
 obtain⟨e1,e2,e3,e4⟩:=N7 (r:=r) h1 h2 fc fr
 show rg (Aw c r fc fr)=_
 unfold rg
 rw[e1,e2,e3,e4,HW ⟨c,by omega⟩ h1,Vz (by omega)]
def rh (fc:Bool) (ls w2:al):cb×Bool :=
 if cK (ci w2).2 2=true∧bS (((kL ls:Nat):Int),((bE 0 (ci w2).2:Nat):Int),())=true then(((((kL ls:Nat):Int),((bE 0 (ci w2).2:Nat):Int),()),fc,(ci w2).1,()),true) else(p0,false)
def cL (w:al):cb×Bool:=rh (ci w).1 ((ci w).2.takeWhile fG) ((ci w).2.dropWhile fG)
theorem Tz {fc:Bool} {ls w2:al} {f1:Bool} {w3:al} (h:ci w2=(f1,w3)) :
  ((cW (ba w3) 2).bind fun z2=>(if(!z2.1.2.1)=true then(some ((((0,0,()),false,false,()),false,()),(()))) else((dn (((kL ls:Nat):Int),z2.1.1,())).bind fun z3=>(if(!z3.1.1)=true then(some ((((0,0,()),false,false,()),false,()),(()))) else(some (((((((kL ls:Nat):Int),z2.1.1,()),fc,f1,()):cb),true,()),(())))))))=some (((rh fc ls w2).1,(rh fc ls w2).2,()),()):=by
 have e:=Dw w3 (m:=2) (by decide)
 have e:cW (ba w3) 2=_:=e
 rw[e]
 simp only[Option.bind_some,mD]
 unfold rh
 rw[h]
 cases hr:cK w3 2 with
 | false=>simp
 | true =>
  simp only[Bool.not_true,Bool.false_eq_true,if_false,if_true,true_and]
  cases ho:bS (((kL ls:Nat):Int),((bE 0 w3:Nat):Int),()) with
  | false=>simp
  | true=>simp
theorem plK {fc:Bool} {w1 pre ys:al} (h:w1=pre++ys) (hl:w1.length≤9223372036854775807) :
  (EK (ba w1) (pre.length:Int) fun y7=>((rP y7).bind fun z8=>(jn (ba w1) (pre.length:Int) fun y8=>(if(decide ((ByteArray.size y8:Int) > 0))=true then(ez y8 0 fun y9=>(if(y9 == 36)=true then(jn y8 1 fun y10=>((cW y10 2).bind fun z9=>(if(!z9.1.2.1)=true then(some ((((0,0,()),false,false,()),false,()),(()))) else((dn (z8.1.1,z9.1.1,())).bind fun z10=>(if(!z10.1.1)=true then(some ((((0,0,()),false,false,()),false,()),(()))) else(some ((((z8.1.1,z9.1.1,()),fc,true,()),true,()),(())))))))) else((cW y8 2).bind fun z11=>(if(!z11.1.2.1)=true then(some ((((0,0,()),false,false,()),false,()),(()))) else((dn (z8.1.1,z11.1.1,())).bind fun z12=>(if(!z12.1.1)=true then(some ((((0,0,()),false,false,()),false,()),(()))) else(some ((((z8.1.1,z11.1.1,()),fc,false,()),true,()),(()))))))))) else((cW y8 2).bind fun z13=>(if(!z13.1.2.1)=true then(some ((((0,0,()),false,false,()),false,()),(()))) else((dn (z8.1.1,z13.1.1,())).bind fun z14=>(if(!z14.1.1)=true then(some ((((0,0,()),false,false,()),false,()),(()))) else(some ((((z8.1.1,z13.1.1,()),fc,false,()),true,()),(())))))))))))
   = (some (((rh fc pre ys).1,(rh fc pre ys).2,()),()):Option ((cb×Bool×Unit)×Unit)):=by
 subst h
 have hle:pre.length≤(pre++ys).length:=by simp
 rw[HR hle,List.take_left' rfl,Qc]
 simp only[Option.bind_some]
 rw[fR hle,List.drop_left' rfl,aQ]
 cases ys with
 | nil =>
  rw[aA (by simp)]
  exact Tz rfl
 | cons y l =>
  rw[aB (by simp),re]
  by_cases hy:y=36
  ·subst hy
   rw[if_pos (by rfl),show(1:Int)=((1:Nat):Int) from rfl,fR (by simp)]
   exact Tz (by unfold ci; rw[gG]; simp)
  ·have h0' : ¬((y.toNat:Int) == 36)=true:=by
    simp only[beq_iff_eq]
    intro e
    apply hy
    apply UInt8.toNat_inj.1
    show y.toNat=36
    omega
   rw[if_neg h0']
   exact Tz (by unfold ci; rw[gG]; simp[hy])
theorem lL {fc:Bool} {w1:al} (hl:w1.length≤9223372036854775806) : ∀(ys pre:al),w1=pre++ys→jg (ba w1) (pre.length:Int) 0 0 false false 0 0 fc false=some (((rh fc (pre++ys.takeWhile fG) (ys.dropWhile fG)).1,(rh fc (pre++ys.takeWhile fG) (ys.dropWhile fG)).2,()),())
 | [],pre,h=>by
  have hlen:w1.length=pre.length:=by rw[h]; simp
  rw[v7,aA (by rw[aQ]; omega)]
  simpa using plK (fc:=fc) h (by omega)
 | y :: ys,pre,h=>by
  have hlen:pre.length < w1.length:=by rw[h]; simp
  rw[v7,aB (by rw[aQ]; omega),la h]
  cases hu:fG y with
  | true =>
   have hu':65≤y.toNat∧y.toNat≤90:=by simpa[fG] using hu
   rw[aB (by omega),la h,aB (by omega),wr (by omega) (by omega),show(pre.length:Int)+1=((pre++[y]).length:Int) by simp,lL hl ys (pre++[y]) (by rw[h]; simp)]
   simp[hu]
  | false =>
   have hk:=plK (fc:=fc) h (by omega)
   rw[List.takeWhile_cons_of_neg (by simp[hu]),List.dropWhile_cons_of_neg (by simp[hu]),List.append_nil]
   by_cases h1:65≤y.toNat
   ·have h2 : ¬y.toNat≤90:=by
     intro h2
     simp[fG,h1,h2] at hu
    rw[aB (by omega),la h,aA (by omega)]
    exact hk
   ·rw[aA (by omega)]
    exact hk
theorem tV {w:al} (hw:w.length≤281474976710656):m5 (ba w)=some (((cL w).1,(cL w).2,()),()):=by
 rw[Lr,aQ]
 cases w with
 | nil =>
  rw[aA (by simp)]
  exact lL (fc:=false) (w1:=[]) (by simp) [] [] rfl
 | cons y l =>
  rw[List.length_cons] at hw
  rw[aB (by simp),re]
  by_cases hy:y=36
  ·subst hy
   rw[if_pos (by rfl),show(1:Int)=((1:Nat):Int) from rfl,fR (by simp)]
   have:=lL (fc:=true) (w1:=l) (by omega) l [] rfl
   have e:ci (36 :: l)=(true,l):=by unfold ci; rw[gG]; simp
   unfold cL
   rw[e]
   exact this
  ·have h0' : ¬((y.toNat:Int) == 36)=true:=by
    simp only[beq_iff_eq]
    intro e
    apply hy
    apply UInt8.toNat_inj.1
    show y.toNat=36
    omega
   rw[if_neg h0']
   have:=lL (fc:=false) (w1:=y :: l) (by rw[List.length_cons]; omega) (y :: l) [] rfl
   have e:ci (y :: l)=(false,y :: l):=by unfold ci; rw[gG]; simp[hy]
   unfold cL
   rw[e]
   exact this
theorem YK {w:al} (h:(cL w).2=true):bS (cL w).1.1=true∧nD (cL w).1=w:=by
 unfold cL rh at h ⊢
 split at h
 ·rename_i hc
  rw[if_pos hc]
  refine⟨hc.2,?_⟩
  obtain⟨⟨k1,k2⟩,k3,k4⟩:=xU.1 hc.2
  simp only at k1 k2 k3 k4
  obtain⟨c1,c2⟩:=Vy (w:=(ci w).2.takeWhile fG) (by omega)
  obtain⟨r1,r2⟩:=Gc hc.1
  unfold nD Aw
  simp only[Int.toNat_natCast]
  rw[c2,r1,KR,List.takeWhile_append_dropWhile,KR]
 ·cases h
theorem VA {p:cb} (h:bS p.1=true):cL (nD p)=(p,true):=by
 obtain⟨c,r,fc,fr,rfl,h1,h2,h3,h4⟩:=Dy h
 obtain⟨e1,e2,e3,e4⟩:=N7 (r:=r) h1 h2 fc fr
 show cL (Aw c r fc fr)=_
 unfold cL rh
 rw[e1,e2,e3,e4,HW ⟨c,by omega⟩ h1,rU,if_pos ⟨Dx (uY h4),h⟩]
theorem YL {w:al} (h:(cL w).2=false):cL w=(p0,false):=by
 unfold cL rh at h ⊢
 split at h
 ·cases h
 ·rename_i hc
  rw[if_neg hc]
theorem oL {w:al} (hw:w.length≤281474976710656):hJ (ba w)=some (((cL w).1,(cL w).2,()),()):=by
 rw[N6 hw]
 by_cases h:bS (rg w).1=true∧nD (rg w)=w
 ·have:=VA h.1
  rw[h.2] at this
  rw[if_pos h,decide_eq_true h,this]
 ·rw[if_neg h,decide_eq_false h]
  cases h2:(cL w).2 with
  | false=>rw[YL h2]
  | true =>
   obtain⟨k1,k2⟩:=YK h2
   refine absurd ?_ h
   have:=YJ k1
   rw[k2] at this
   rw[this]
   exact⟨k1,k2⟩
def jz:al:=[84,82,85,69]
def kj:al:=[70,65,76,83,69]
def e8 (w:al):Int:=if cY 5=ba w then 5 else if cY 4=ba w then 4 else if cY 3=ba w then 3 else if cY 2=ba w then 2 else if cY 1=ba w then 1 else 0
theorem YM {w:al} (h:e8 w≠0):cY (e8 w)=ba w∧1≤e8 w∧e8 w≤5:=by
 unfold e8 at h ⊢
 split
 ·exact⟨‹_›,by decide,by decide⟩
 ·split
  ·exact⟨‹_›,by decide,by decide⟩
  ·split
   ·exact⟨‹_›,by decide,by decide⟩
   ·split
    ·exact⟨‹_›,by decide,by decide⟩
    ·split
     ·exact⟨‹_›,by decide,by decide⟩
     ·rename_i h1 h2 h3 h4 h5
      simp[h1,h2,h3,h4,h5] at h
theorem KT : ∀ n:Fin 6,1≤n.val→e8 (lb (cY (n.val:Int)))=(n.val:Int):=by decide +kernel
def Cd (w:al):ab :=
 if w=[] then v0 else
 if w.head? = some 39 then vT (ba (w.drop 1)) else
 if w=jz then vB true else
 if w=kj then vB false else
 if w.head? = some 35 then(4,e8 w,eS,()) else
 if w.head? = some 45 then(if cK (w.drop 1) 16=true∧bE 0 (w.drop 1)≠0 then vN (-((bE 0 (w.drop 1):Nat):Int)) else(9,0,eS,())) else
 if cK w 16=true then vN ((bE 0 w:Nat):Int) else(9,0,eS,())
def bB (w:al):ab×Bool:=if ax (Cd w)=true then(Cd w,true) else(v0,false)
theorem Rk {v:ab} (h:v.2.2.1.size≤9223372036854775807) {a b:Int} {c:ByteArray}:aP a b c v.1 v.2.1 v.2.2.1=some ((if ax v=true then v else v0,ax v,()),()):=by
 rw[EB,show(v.1,v.2.1,v.2.2.1,())=v from rfl,fd h]
 simp only[Option.bind_some]
 cases ax v <;> rfl
theorem wz {w:al} {n:Int} (h0:0≤n) (h1:n≤5) {a b e N:Int} {c f:ByteArray}:eV (ba w) n a b c e N f=eV (ba w) (n+1) a b c e (if cY n=ba w then n else N) f:=by
 rw[ud,aB h1,uU h0 h1]
 simp only[Option.bind_some,s4,decide_eq_true_eq]
 rw[wr (by omega) (by omega)]
 split <;> rfl
theorem ZL {w:al}:eV (ba w) 1 0 0 eS 4 0 eS=some ((if ax (4,e8 w,eS,())=true then(4,e8 w,eS,()) else v0,ax (4,e8 w,eS,()),()),()):=by
 rw[wz (by decide) (by decide),wz (by decide) (by decide),wz (by decide) (by decide),wz (by decide) (by decide),wz (by decide) (by decide),ud,aA (by decide)]
 exact Rk (v:=(4,e8 w,eS,())) (by show eS.size≤_; decide)
theorem Xl {w:al} (hw:w.length≤9223372036854775807) {y:UInt8} {l:al} (h:w=y :: l) :
  (if((y.toNat:Int) == 45)=true then(jn (ba w) 1 fun y5=>((cW y5 16).bind fun z1=>(if(!z1.1.2.1)=true then(some (((0,0,(⟨#[]⟩:ByteArray),()),false,()),(()))) else(if((y.toNat:Int) == 45)=true then(if(z1.1.1 == 0)=true then(some (((0,0,(⟨#[]⟩:ByteArray),()),false,()),(()))) else(if((y.toNat:Int) == 45)=true then(aP 0 0 (⟨#[]⟩:ByteArray) 1 (IntKind.i64.wrap (0 - z1.1.1)) (⟨#[]⟩:ByteArray)) else(aP 0 0 (⟨#[]⟩:ByteArray) 1 z1.1.1 (⟨#[]⟩:ByteArray)))) else(if((y.toNat:Int) == 45)=true then(aP 0 0 (⟨#[]⟩:ByteArray) 1 (IntKind.i64.wrap (0 - z1.1.1)) (⟨#[]⟩:ByteArray)) else(aP 0 0 (⟨#[]⟩:ByteArray) 1 z1.1.1 (⟨#[]⟩:ByteArray)))))))
   else((cW (ba w) 16).bind fun z2=>(if(!z2.1.2.1)=true then(some (((0,0,(⟨#[]⟩:ByteArray),()),false,()),(()))) else(if((y.toNat:Int) == 45)=true then(if(z2.1.1 == 0)=true then(some (((0,0,(⟨#[]⟩:ByteArray),()),false,()),(()))) else(if((y.toNat:Int) == 45)=true then(aP 0 0 (⟨#[]⟩:ByteArray) 1 (IntKind.i64.wrap (0 - z2.1.1)) (⟨#[]⟩:ByteArray)) else(aP 0 0 (⟨#[]⟩:ByteArray) 1 z2.1.1 (⟨#[]⟩:ByteArray)))) else(if((y.toNat:Int) == 45)=true then(aP 0 0 (⟨#[]⟩:ByteArray) 1 (IntKind.i64.wrap (0 - z2.1.1)) (⟨#[]⟩:ByteArray)) else(aP 0 0 (⟨#[]⟩:ByteArray) 1 z2.1.1 (⟨#[]⟩:ByteArray)))))))
   = (let v:ab:=if w.head? = some 45 then(if cK (w.drop 1) 16=true∧bE 0 (w.drop 1)≠0 then vN (-((bE 0 (w.drop 1):Nat):Int)) else(9,0,eS,())) else if cK w 16=true then vN ((bE 0 w:Nat):Int) else(9,0,eS,())
    some ((if ax v=true then v else v0,ax v,()),())):=by
 have e9:ax (9,0,eS,())=false:=by decide
 have hint : ∀ x:al,cW (ba x) 16=_:=fun x=>Dw x (m:=16) (by decide)
 have hrange : ∀ x:al,cK x 16=true→bE 0 x < 10 ^ 16:=by
  intro x hx
  unfold cK ki at hx
  simp only[Bool.and_eq_true,decide_eq_true_eq] at hx
  have:=Ej x 0 hx.1.1.1
  exact Nat.lt_of_lt_of_le (by simpa using this) (Nat.pow_le_pow_right (by decide) hx.2)
 subst h
 by_cases hy:y=45
 ·subst hy
  have e:(((45:UInt8).toNat:Int) == 45)=true:=rfl
  simp only[e,if_true,List.head?_cons,List.drop_succ_cons,List.drop_zero]
  rw[show(1:Int)=((1:Nat):Int) from rfl,fR (by simp)]
  simp only[List.drop_succ_cons,List.drop_zero,hint,Option.bind_some]
  cases hr:cK l 16 with
  | false=>simp[e9]; rfl
  | true =>
   have:=hrange l hr
   by_cases h0:bE 0 l=0
   ·simp[h0,e9]; rfl
   ·have h0' : ¬(((bE 0 l:Nat):Int) == 0)=true:=by simp only[beq_iff_eq]; omega
    simp only[Bool.not_true,Bool.false_eq_true,if_false,if_true,h0',ne_eq,h0,not_false_eq_true,and_self]
    rw[wr (by omega) (by omega),show(0:Int) - ((bE 0 l:Nat):Int) = -((bE 0 l:Nat):Int) by omega]
    exact Rk (v:=vN _) (by show eS.size≤_; decide)
 ·have e : ¬((y.toNat:Int) == 45)=true:=by
   simp only[beq_iff_eq]
   intro e
   apply hy
   apply UInt8.toNat_inj.1
   show y.toNat=45
   omega
  have e2 : ¬(some y=some (45:UInt8)):=by simpa using hy
  simp only[e,if_false,List.head?_cons,e2,hint,Option.bind_some]
  cases hr:cK (y :: l) 16 with
  | false=>simp[e9]; rfl
  | true =>
   have:=hrange _ hr
   simp only[Bool.not_true,Bool.false_eq_true,if_false,if_true]
   exact Rk (v:=vN _) (by show eS.size≤_; decide)
theorem oM {w:al} (hw:w.length≤9223372036854775807):kE (ba w)=some (((bB w).1,(bB w).2,()),()):=by
 have aO : ∀ v:ab,Cd w=v→some ((if ax v=true then v else v0,ax v,()),())=(some (((bB w).1,(bB w).2,()),()):Option ((ab×Bool×Unit)×Unit)):=by
  intro v hv
  unfold bB
  rw[hv]
  cases ax v <;> rfl
 rw[Lt]
 have e0:(ByteArray.toList (ba w) == ByteArray.toList (⟨#[]⟩:ByteArray))=decide (w=[]):=dF (b:=[])
 have e1:(ByteArray.toList (ba w) == ByteArray.toList (⟨#[84,82,85,69]⟩:ByteArray))=decide (w=jz):=dF (b:=jz)
 have e2:(ByteArray.toList (ba w) == ByteArray.toList (⟨#[70,65,76,83,69]⟩:ByteArray))=decide (w=kj):=dF (b:=kj)
 rw[e0,e1,e2]
 cases w with
 | nil =>
  rw[aB rfl]
  exact aO v0 rfl
 | cons y l =>
  rw[aA (by simp)]
  simp only[re]
  rw[F7 y 39 (n:=39) rfl,F7 y 35 (n:=35) rfl]
  have hv:=Cd.eq_def (y :: l)
  rw[if_neg (by simp)] at hv
  by_cases h39:y=39
  ·rw[aB h39,show(1:Int)=((1:Nat):Int) from rfl,fR (by simp)]
   rw[if_pos (by rw[h39]; rfl)] at hv
   rw[List.length_cons] at hw
   exact(Rk (v:=vT (ba ((y :: l).drop 1))) (by show(ba _).size≤_; rw[aQ]; simp; omega)).trans (aO _ hv)
  ·rw[aA h39]
   rw[if_neg (by simpa using h39)] at hv
   by_cases ht:(y :: l)=jz
   ·rw[if_pos ht] at hv
    rw[aB ht,aB ht,aB ht]
    exact(Rk (v:=vB true) (by decide)).trans (aO _ hv)
   ·rw[if_neg ht] at hv
    rw[aA ht]
    by_cases hf:(y :: l)=kj
    ·rw[if_pos hf] at hv
     rw[aB hf,aA ht]
     exact(Rk (v:=vB false) (by decide)).trans (aO _ hv)
    ·rw[if_neg hf] at hv
     rw[aA hf]
     by_cases h35:y=35
     ·rw[aB h35]
      rw[if_pos (by rw[h35]; rfl)] at hv
      exact ZL.trans (aO _ hv)
     ·rw[aA h35]
      rw[if_neg (by simpa using h35)] at hv
      exact(Xl hw rfl).trans (aO _ hv)
theorem xV {n:Int} (h:n < 0):cP n=ba (45 :: Lib.decDigits (-n).toNat):=by
 rw[xR h,show -n=((-n).toNat:Int) by omega,pg,show(⟨#[45]⟩:ByteArray)=ba [45] from rfl,k9]
 congr 2
theorem Dz {u:Nat}:Lib.decDigits u≠[]∧(Lib.decDigits u).head? ≠ some 39∧(Lib.decDigits u).head? ≠ some 35∧(Lib.decDigits u).head? ≠ some 45∧Lib.decDigits u≠jz∧Lib.decDigits u≠kj:=by
 obtain⟨y,l,hy,hd⟩:=HX u
 rw[hy]
 have hn : ∀ c:UInt8,dt c=false→y≠c:=by
  rintro c hc rfl
  rw[hd] at hc
  cases hc
 refine⟨by simp,?_,?_,?_,?_,?_⟩
 ·simpa using hn 39 (by decide)
 ·simpa using hn 35 (by decide)
 ·simpa using hn 45 (by decide)
 ·intro e
  exact hn 84 (by decide) (List.cons.inj e).1
 ·intro e
  exact hn 70 (by decide) (List.cons.inj e).1
theorem TA {u:Nat} (h:u≤1000000000000000):(Lib.decDigits u).length≤16:=HI 15 u (by omega)
theorem YN {v:ab} (h:ax v=true) (k:v.1≠2):v.2.2.1=eS:=by
 unfold ax at h
 rw[if_neg k] at h
 simp only[Bool.and_eq_true,decide_eq_true_eq] at h
 exact h.1
theorem YO {v:ab} (h:ax v=true) (k:v.1=0):v.2.1=0:=by
 unfold ax at h
 rw[if_neg (by omega),if_pos k] at h
 simp only[Bool.and_eq_true,decide_eq_true_eq] at h
 exact h.2
theorem YP {v:ab} (h:ax v=true) (k:v.1=2):v.2.1=0:=by
 unfold ax at h
 rw[if_pos k] at h
 simp only[Bool.and_eq_true,decide_eq_true_eq] at h
 exact h.1
theorem yG {v:ab} (h:ax v=true):v=v0∨(∃ n,v=vN n ∧ -1000000000000000≤n∧n≤1000000000000000)∨(∃ s,v=vT s)∨(∃ b,v=vB b) ∨ ∃ n:Fin 6,v=vE (n.val:Int)∧1≤n.val:=by
 obtain⟨k,n,s,u⟩:=v
 have hS:=fun hk=>YN h hk
 rcases uV h with hk | hk | hk | hk | hk <;> simp only at hk <;> subst hk
 ·have h0:=YO h rfl
  have h1:=hS (by show(_:Int)≠2; omega)
  simp only at h0 h1
  subst h0; subst h1
  exact .inl rfl
 ·have h0:=rT h rfl
  have h1:=hS (by show(_:Int)≠2; omega)
  simp only at h0 h1
  subst h1
  exact .inr (.inl ⟨n,rfl,h0.1,h0.2⟩)
 ·have h0:=YP h rfl
  simp only at h0
  subst h0
  exact .inr (.inr (.inl ⟨s,rfl⟩))
 ·have h0:=Ao h rfl
  have h1:=hS (by show(_:Int)≠2; omega)
  simp only at h0 h1
  subst h1
  refine .inr (.inr (.inr (.inl ⟨decide (n=1),?_⟩)))
  have:n=0∨n=1:=by omega
  rcases this with rfl | rfl <;> rfl
 ·have h0:=vb h rfl
  have h1:=hS (by show(_:Int)≠2; omega)
  simp only at h0 h1
  subst h1
  refine .inr (.inr (.inr (.inr ⟨⟨n.toNat,by omega⟩,?_,by simp; omega⟩)))
  show _=vE ((n.toNat:Nat):Int)
  rw[Int.toNat_of_nonneg (by omega)]
  rfl
theorem Xm {v:ab} (h:ax v=true):Cd (lb (bG v))=v:=by
 rcases yG h with rfl | ⟨n,rfl,h0,h1⟩ | ⟨s,rfl⟩ | ⟨b,rfl⟩ | ⟨n,rfl,h0⟩
 ·rfl
 ·have e:bG (vN n)=cP n:=rfl
  rw[e]
  by_cases hn:n < 0
  ·rw[xV hn,dv]
   have hr:cK (Lib.decDigits (-n).toNat) 16=true:=Dx (TA (by omega))
   unfold Cd
   simp only[List.head?_cons,List.drop_succ_cons,List.drop_zero,hr,rU]
   rw[if_neg (by simp),if_neg (by decide),if_neg (by unfold jz; simp),if_neg (by unfold kj; simp),if_neg (by decide),if_pos trivial,if_pos ⟨trivial,by omega⟩]
   congr 1
   omega
  ·rw[show n=(n.toNat:Int) by omega,pg,dv]
   have hr:cK (Lib.decDigits n.toNat) 16=true:=Dx (TA (by omega))
   obtain⟨d1,d2,d3,d4,d5,d6⟩:=Dz (u:=n.toNat)
   unfold Cd
   rw[if_neg d1,if_neg d2,if_neg d5,if_neg d6,if_neg d3,if_neg d4,if_pos hr,rU]
 ·have e:lb (bG (vT s))=39 :: lb s:=by
   show lb ((⟨#[39]⟩:ByteArray)++s)=_
   rw[←d9 s,show(⟨#[39]⟩:ByteArray)=ba [39] from rfl,k9,dv]
   simp
  rw[e]
  unfold Cd
  rw[if_neg (by simp),if_pos (by rfl)]
  simp only[List.drop_succ_cons,List.drop_zero,d9]
 ·cases b <;> rfl
 ·have e:lb (bG (vE (n.val:Int)))=lb (cY (n.val:Int)):=rfl
  rw[e]
  have h1 : ∀ n:Fin 6,1≤n.val→lb (cY (n.val:Int))≠[]∧(lb (cY (n.val:Int))).head? = some 35∧lb (cY (n.val:Int))≠jz∧lb (cY (n.val:Int))≠kj:=by decide +kernel
  obtain⟨a1,a2,a3,a4⟩:=h1 n h0
  unfold Cd
  rw[if_neg a1,if_neg (by rw[a2]; decide),if_neg a3,if_neg a4,if_pos a2,KT n h0]
  rfl
theorem BC {v:ab} (h:ax v=true):bB (lb (bG v))=(v,true):=by
 unfold bB
 rw[Xm h,if_pos h]
theorem ZM {w:al} (h:ax (Cd w)=true):bG (Cd w)=ba w:=by
 unfold Cd at h ⊢
 split
 ·rename_i hw
  rw[hw]
  rfl
 ·rename_i hw
  rw[if_neg hw] at h
  split
  ·rename_i h39
   cases w with
   | nil=>cases h39
   | cons y l =>
    simp only[List.head?_cons,Option.some.injEq] at h39
    subst h39
    show(⟨#[39]⟩:ByteArray)++ba l=_
    rw[show(⟨#[39]⟩:ByteArray)=ba [39] from rfl,k9]
    rfl
  ·rename_i h39
   rw[if_neg h39] at h
   split
   ·rename_i ht
    rw[ht]
    rfl
   ·rename_i ht
    rw[if_neg ht] at h
    split
    ·rename_i hf
     rw[hf]
     rfl
    ·rename_i hf
     rw[if_neg hf] at h
     split
     ·rename_i h35
      rw[if_pos h35] at h
      have:=vb h rfl
      simp only at this
      exact(YM (by omega)).1
     ·rename_i h35
      rw[if_neg h35] at h
      have e9:ax (9,0,eS,())=false:=by decide
      split
      ·rename_i h45
       rw[if_pos h45] at h
       split
       ·rename_i hc
        cases w with
        | nil=>cases h45
        | cons y l =>
         simp only[List.head?_cons,Option.some.injEq] at h45
         subst h45
         simp only[List.drop_succ_cons,List.drop_zero] at hc ⊢
         show cP (-((bE 0 l:Nat):Int))=_
         rw[xV (by omega),show(- -((bE 0 l:Nat):Int)).toNat=bE 0 l by omega,(Gc hc.1).1]
       ·rename_i hc
        rw[if_neg hc,e9] at h
        cases h
      ·rename_i h45
       rw[if_neg h45] at h
       split
       ·rename_i hc
        show cP ((bE 0 w:Nat):Int)=_
        rw[pg,(Gc hc).1]
       ·rename_i hc
        rw[if_neg hc,e9] at h
        cases h
theorem ph {w:al} (h:(bB w).2=true):ax (bB w).1=true∧bG (bB w).1=ba w:=by
 unfold bB at h ⊢
 split at h
 ·rename_i hc
  rw[if_pos hc]
  exact⟨hc,ZM hc⟩
 ·cases h
theorem N8 {w:al} (h:(bB w).2=false):bB w=(v0,false):=by
 unfold bB at h ⊢
 split at h
 ·cases h
 ·rename_i hc
  rw[if_neg hc]
theorem Rl : ∀(l:al) (a:Nat),a≤bE a l
 | [],a=>Nat.le_refl _
 | c :: l,a=>by
  have:=Rl l (a*10+(c.toNat - 48))
  show a≤bE (a*10+(c.toNat - 48)) l
  omega
theorem L1 : ∀(l:al) (a:Nat),l.all dt=true→bE a l≤100000000000000000→Lib.parseUintM 18446744073709551615 a l = .ok (bE a l)
 | [],a,_,_=>rfl
 | c :: l,a,h,hv=>by
  simp only[List.all_cons,Bool.and_eq_true] at h
  have hd:48≤c.toNat∧c.toNat≤57:=by simpa[dt] using h.1
  have hg:=Rl l (a*10+(c.toNat - 48))
  have hv':bE (a*10+(c.toNat - 48)) l≤100000000000000000:=hv
  unfold Lib.parseUintM
  rw[if_pos hd,if_neg (by omega),if_neg (by omega),L1 l _ h.2 hv']
  rfl
theorem Jc {l:al} (h:ki l=true):l.all dt=true:=by
 unfold ki at h
 simp only[Bool.and_eq_true] at h
 exact h.1.1
theorem VB {u:Nat} (h:u≤1000000000000000):Lib.parseUintB 64 (Lib.decDigits u) = .ok u:=by
 unfold Lib.parseUintB
 rw[if_neg Dz.1]
 have:=L1 (Lib.decDigits u) 0 (Jc (wq u)) (by rw[rU]; omega)
 rw[rU] at this
 exact this
theorem TB {u:Nat} (h:u≤1000000000000000):cj (Lib.decDigits u)=((u:Int),true):=by
 obtain⟨y,l,hy,hd⟩:=HX u
 have hd':48≤y.toNat∧y.toNat≤57:=by simpa[dt] using hd
 have hp:=VB h
 unfold cj
 have:Lib.parseIntB 64 (Lib.decDigits u) = .ok (u:Int):=by
  rw[hy] at hp ⊢
  unfold Lib.parseIntB
  simp only
  rw[if_neg (by omega),hp]
  simp only
  rw[if_neg (by omega),if_neg (by omega),if_neg (by omega)]
 rw[this]
theorem TC {u:Nat} (h:u≤1000000000000000):cj (45 :: Lib.decDigits u)=(-(u:Int),true):=by
 have hp:=VB h
 unfold cj
 have:Lib.parseIntB 64 (45 :: Lib.decDigits u) = .ok (-(u:Int)):=by
  unfold Lib.parseIntB
  simp only
  have h45:(45:UInt8).toNat=45:=rfl
  rw[if_pos (.inr h45),hp]
  simp only
  rw[if_neg (by omega),if_neg (by omega),if_pos h45]
 rw[this]
def cV (w:al):ab :=
 if([39]:al).isPrefixOf w=true then vT (ba (w.drop 1)) else
 if w=kj then vB (decide (w=jz)) else
 if w=jz then vB (decide (w=jz)) else
 if([35]:al).isPrefixOf w=true then(if e8 w=0 then v0 else vE (e8 w)) else
 if w≠[] then vN (cj w).1 else v0
theorem Em {v:ab} {w:al} (h:v.2.2.1.size≤9223372036854775807):((dj v).bind fun z2=>(if(!z2.1.1)=true then(some (((0,0,(⟨#[]⟩:ByteArray),()),false,()),(()))) else((fh v).bind fun z3=>(if(!(ByteArray.toList z3.1.1 == ByteArray.toList (ba w)))=true then(some (((0,0,(⟨#[]⟩:ByteArray),()),false,()),(()))) else(some ((v,true,()),(())))))))=some ((if ax v=true∧bG v=ba w then v else v0,decide (ax v=true∧bG v=ba w),()),()):=by
 rw[fe h]
 simp only[Option.bind_some]
 cases ho:ax v with
 | false=>simp; rfl
 | true =>
  rw[tS ho]
  simp only[Option.bind_some,Bool.not_true,Bool.false_eq_true,if_false,s4,true_and]
  by_cases hv:bG v=ba w
  ·simp[hv]
  ·simp[hv]; rfl
theorem ZN {w:al} (hc : ∀ v:ab,ax v=true→bG v=ba w→cV w=v):(if ax (cV w)=true∧bG (cV w)=ba w then cV w else v0)=(bB w).1∧decide (ax (cV w)=true∧bG (cV w)=ba w)=(bB w).2:=by
 by_cases h:ax (cV w)=true∧bG (cV w)=ba w
 ·have:=BC h.1
  rw[h.2,dv] at this
  rw[if_pos h,decide_eq_true h,this]
  exact⟨rfl,rfl⟩
 ·rw[if_neg h,decide_eq_false h]
  cases h2:(bB w).2 with
  | false=>rw[N8 h2]; exact⟨rfl,rfl⟩
  | true =>
   obtain⟨k1,k2⟩:=ph h2
   refine absurd ?_ h
   rw[hc _ k1 k2]
   exact⟨k1,k2⟩
theorem YQ {v:ab} (h:ax v=true):cV (lb (bG v))=v:=by
 rcases yG h with rfl | ⟨n,rfl,h0,h1⟩ | ⟨s,rfl⟩ | ⟨b,rfl⟩ | ⟨n,rfl,h0⟩
 ·rfl
 ·have e:bG (vN n)=cP n:=rfl
  rw[e]
  by_cases hn:n < 0
  ·rw[xV hn,dv]
   unfold cV
   rw[if_neg (by simp),if_neg (by unfold kj; simp),if_neg (by unfold jz; simp),if_neg (by simp),if_pos (by simp),TC (by omega)]
   congr 1
   simp only
   omega
  ·rw[show n=(n.toNat:Int) by omega,pg,dv]
   obtain⟨d1,d2,d3,d4,d5,d6⟩:=Dz (u:=n.toNat)
   have hp:=TB (u:=n.toNat) (by omega)
   obtain⟨y,l,hy,hd⟩:=HX n.toNat
   rw[hy] at d1 d2 d3 d4 d5 d6 hp ⊢
   unfold cV
   rw[if_neg (by rw[gG]; simpa using d2),if_neg d6,if_neg d5,if_neg (by rw[gG]; simpa using d3),if_pos d1,hp]
 ·have e:lb (bG (vT s))=39 :: lb s:=by
   show lb ((⟨#[39]⟩:ByteArray)++s)=_
   rw[←d9 s,show(⟨#[39]⟩:ByteArray)=ba [39] from rfl,k9,dv]
   simp
  rw[e]
  unfold cV
  rw[if_pos (by simp)]
  simp only[List.drop_succ_cons,List.drop_zero,d9]
 ·cases b <;> rfl
 ·have e:lb (bG (vE (n.val:Int)))=lb (cY (n.val:Int)):=rfl
  rw[e]
  have h1 : ∀ n:Fin 6,1≤n.val→([39]:al).isPrefixOf (lb (cY (n.val:Int)))=false∧([35]:al).isPrefixOf (lb (cY (n.val:Int)))=true∧lb (cY (n.val:Int))≠jz∧lb (cY (n.val:Int))≠kj:=by decide +kernel
  obtain⟨a1,a2,a3,a4⟩:=h1 n h0
  unfold cV
  rw[if_neg (by rw[a1]; decide),if_neg a4,if_neg a3,if_pos a2,KT n h0,if_neg (by omega)]
theorem Ax {w:al} {n:Int} (h0:0≤n) (h1:n≤5) {a b d e:Int} {c f:ByteArray}:gP (ba w) n a b c d e f=gP (ba w) (n+1) a b c (if cY n=ba w then 4 else d) (if cY n=ba w then n else e) (if cY n=ba w then eS else f):=by
 rw[we,aB h1,oG h0 h1]
 simp only[Option.bind_some,s4,decide_eq_true_eq,il]
 rw[wr (by omega) (by omega)]
 split <;> rfl
theorem Jd {α:Type} (w:al) (f:Int→α) (z:α) (hz:z=f 0):(if cY 5=ba w then f 5 else if cY 4=ba w then f 4 else if cY 3=ba w then f 3 else if cY 2=ba w then f 2 else if cY 1=ba w then f 1 else z)=f (e8 w):=by
 unfold e8
 subst hz
 repeat' split <;> first | rfl | skip
theorem aan {w:al}:gP (ba w) 1 0 0 eS 0 0 eS=some ((if ax (if e8 w=0 then v0 else vE (e8 w))=true∧bG (if e8 w=0 then v0 else vE (e8 w))=ba w then(if e8 w=0 then v0 else vE (e8 w)) else v0,decide (ax (if e8 w=0 then v0 else vE (e8 w))=true∧bG (if e8 w=0 then v0 else vE (e8 w))=ba w),()),()):=by
 rw[Ax (by decide) (by decide),Ax (by decide) (by decide),Ax (by decide) (by decide),Ax (by decide) (by decide),Ax (by decide) (by decide),we,aA (by decide)]
 have e1:=Jd w (fun n=>if n=0 then(0:Int) else 4) 0 (by simp)
 have e2:=Jd w (fun n=>n) 0 rfl
 have e3:=Jd w (fun n=>eS) eS rfl
 simp only[show(1:Int)+1=2 from rfl,show(2:Int)+1=3 from rfl,show(3:Int)+1=4 from rfl,show(4:Int)+1=5 from rfl]
 simp only[show(5:Int)=0↔False by decide,show(4:Int)=0↔False by decide,show(3:Int)=0↔False by decide,show(2:Int)=0↔False by decide,show(1:Int)=0↔False by decide,if_false] at e1
 rw[e1,e2,e3]
 have e:((if e8 w=0 then(0:Int) else 4),e8 w,eS,())=(if e8 w=0 then v0 else vE (e8 w)):=by
  by_cases h:e8 w=0
  ·rw[if_pos h,if_pos h,h]
   rfl
  ·rw[if_neg h,if_neg h]
   rfl
 rw[e]
 exact Em (by split <;> (show eS.size≤_; decide))
theorem oO {w:al} (hw:w.length≤281474976710656):eG (ba w)=some (((bB w).1,(bB w).2,()),()):=by
 obtain⟨p1,p2⟩:=ZN (w:=w) (fun v h1 h2=>by have:=YQ h1; rw[h2,dv] at this; exact this)
 have aO : ∀ v:ab,cV w=v→(some ((if ax v=true∧bG v=ba w then v else v0,decide (ax v=true∧bG v=ba w),()),()):Option ((ab×Bool×Unit)×Unit))=some (((bB w).1,(bB w).2,()),()):=by
  rintro v rfl
  rw[p1,p2]
 have hv:=cV.eq_def w
 have e1:(ByteArray.toList (ba w) == ByteArray.toList (⟨#[84,82,85,69]⟩:ByteArray))=decide (w=jz):=dF (b:=jz)
 have e2:(ByteArray.toList (ba w) == ByteArray.toList (⟨#[70,65,76,83,69]⟩:ByteArray))=decide (w=kj):=dF (b:=kj)
 have e0:(ByteArray.toList (ba w) == ByteArray.toList (⟨#[]⟩:ByteArray))=decide (w=[]):=dF (b:=[])
 rw[LB,show(⟨#[39]⟩:ByteArray)=ba [39] from rfl,tE w [39] (by omega),show(⟨#[35]⟩:ByteArray)=ba [35] from rfl,tD w [35] (by omega),e0,e1,e2]
 simp only[Option.bind_some,tB]
 cases h39:([39]:al).isPrefixOf w with
 | true =>
  rw[if_pos h39] at hv
  simp only[if_true]
  refine(Em (v:=vT (ba (w.drop 1))) ?_).trans (aO _ hv)
  show(ba _).size≤_
  rw[aQ]
  simp
  omega
 | false =>
  rw[if_neg (by rw[h39]; decide)] at hv
  simp only[Bool.false_eq_true,if_false]
  by_cases hf:w=kj
  ·rw[if_pos hf] at hv
   rw[aB hf]
   exact(Em (v:=vB (decide (w=jz))) (by show eS.size≤_; decide)).trans (aO _ hv)
  ·rw[if_neg hf] at hv
   rw[aA hf]
   by_cases ht:w=jz
   ·rw[if_pos ht] at hv
    rw[aB ht]
    exact(Em (v:=vB (decide (w=jz))) (by show eS.size≤_; decide)).trans (aO _ hv)
   ·rw[if_neg ht] at hv
    rw[aA ht]
    cases h35:([35]:al).isPrefixOf w with
    | true =>
     rw[if_pos h35] at hv
     simp only[if_true]
     exact aan.trans (aO _ hv)
    | false =>
     rw[if_neg (by rw[h35]; decide)] at hv
     simp only[Bool.false_eq_true,if_false]
     by_cases he:w=[]
     ·rw[if_neg (by simpa using he)] at hv
      simp only[he,decide_true,Bool.not_true,Bool.false_eq_true,if_false]
      rw[he] at hv aO
      exact(Em (v:=v0) (w:=[]) (by decide)).trans (aO _ hv)
     ·rw[if_pos he] at hv
      simp only[he,decide_false,Bool.not_false,if_true,yF hw,Option.bind_some,jw]
      exact(Em (v:=vN (cj w).1) (by show eS.size≤_; decide)).trans (aO _ hv)
def Yh (c:UInt8):Bool:=decide (c=32)
def bl (l:al):al:=l.dropWhile Yh
def bh (c:UInt8):Bool:=fG c || dt c || decide (c=36)
theorem ZO:(fun c=>([32]:al).contains c)=Yh:=funext fun c=>Dq (p:=fun c=>([32]:al).contains c=Yh c) (by decide +kernel) c
theorem ZP:(fun c=>([65,66,67,68,69,70,71,72,73,74,75,76,77,78,79,80,81,82,83,84,85,86,87,88,89,90,48,49,50,51,52,53,54,55,56,57,36]:al).contains c)=bh:=funext fun c=>Dq (p:=fun c=>([65,66,67,68,69,70,71,72,73,74,75,76,77,78,79,80,81,82,83,84,85,86,87,88,89,90,48,49,50,51,52,53,54,55,56,57,36]:al).contains c=bh c) (by decide +kernel) c
theorem HY (p:UInt8→Bool) : ∀ l:al,(l.dropWhile p).dropWhile p=l.dropWhile p
 | []=>rfl
 | c :: l=>by
  cases h:p c with
  | true=>rw[List.dropWhile_cons_of_pos h,HY p l]
  | false =>
   have h' : ¬p c=true:=by rw[h]; decide
   rw[List.dropWhile_cons_of_neg h',List.dropWhile_cons_of_neg h']
theorem dM (l:al):bl (bl l)=bl l:=HY _ _
theorem aF (l:al):bl l <:+ l:=List.dropWhile_suffix _
theorem aN {a b:al} (h:a <:+ b):a.length≤b.length:=h.length_le
theorem ri (l:al) (b:Bool) (ns:List aa):iv (ba l) b ns=some ((),((ba (bl l),ns,b,()),())):=by
 rw[Ey,show(⟨#[32]⟩:ByteArray)=ba [32] from rfl,yD _ _ (by decide +kernel),ZO]
 rfl
def Yi:List al:=[[60,62],[60,61],[62,61],[60],[62],[61],[38],[43],[45],[42],[47],[40],[41],[44],[58]]
def sg (l:al):al:=(Yi.find? fun p=>p.isPrefixOf l).getD []
theorem HZ {l:al} {b:Bool} {ns:List aa} (hl:l.length≤1000) {X:List ByteArray} (hX:X.length≤100) : ∀(ys:List al) (pre:List ByteArray),X=pre++ys.map (fun x=>ba x)→lG (X.length:Int) (pre.length:Int) (ba l) b X ns=some ((ba ((ys.find? fun p=>p.isPrefixOf l).getD []),()),((ba l,ns,b,()),()))
 | [],pre,h=>by
  rw[tt,aA (bj (by simpa using h))]
  rfl
 | y :: ys,pre,h=>by
  have h':X=pre++ba y :: ys.map (fun x=>ba x):=by simpa using h
  have hd:List.getD X (Int.toNat (pre.length:Int)) (⟨#[]⟩:ByteArray)=ba y:=by rw[h']; exact gC
  rw[tt,aB (bu h'),gZ h',hd,tD _ _ (by omega)]
  simp only[Option.bind_some,List.find?_cons]
  cases hy:y.isPrefixOf l with
  | true=>rfl
  | false =>
   simp only[Bool.false_eq_true,if_false]
   rw[aJ h' (by omega)]
   exact HZ hl hX ys (pre++[ba y]) (by rw[h']; simp)
theorem N9 {l:al} {b:Bool} {ns:List aa} (hl:l.length≤1000):qB (ba l) b ns=some ((ba (sg (bl l)),()),((ba (bl l),ns,b,()),())):=by
 rw[Hq,ri]
 simp only[Option.bind_some]
 have:=aN (aF l)
 exact HZ (by omega) (by decide) Yi [] rfl
theorem Oa (l:al):(sg l).isPrefixOf l=true:=by
 unfold sg
 cases h:Yi.find? fun p=>p.isPrefixOf l with
 | none=>simp
 | some p =>
  have:=List.find?_some h
  simpa using this
theorem En {p l:al} (h:p.isPrefixOf l=true):p.length≤l.length:=(List.isPrefixOf_iff_prefix.1 h).length_le
theorem ef {l w:al} {b:Bool} {ns:List aa} (hl:l.length≤1000):bJ (ba w) (ba l) b ns=some ((decide (sg (bl l)=w),()),((ba (if sg (bl l)=w then(bl l).drop w.length else bl l),ns,b,()),())):=by
 rw[Hr,N9 hl]
 simp only[Option.bind_some,dF]
 by_cases h:sg (bl l)=w
 ·have:=En (Oa (bl l))
  rw[h] at this
  simp only[h,decide_true,Bool.not_true,Bool.false_eq_true,if_false,if_true,aQ]
  rw[fR this]
 ·simp[h]
def gO (y:UInt8) (a b:Bool):Int:=if y=60 then(if a=true then 7 else if b=true then 9 else 8) else if y=62 then(if b=true then 11 else 10) else if y=61 then 6 else if y=38 then 5 else if y=43 then 1 else if y=45 then 2 else if y=42 then 3 else if y=47 then 4 else 0
def gS (y:UInt8) (a b:Bool):al:=if y=60 then(if a=true then [60,62] else if b=true then [60,61] else [60]) else if y=62 then(if b=true then [62,61] else [62]) else if y=61 then [61] else if y=38 then [38] else if y=43 then [43] else if y=45 then [45] else if y=42 then [42] else if y=47 then [47] else if y=40 then [40] else if y=41 then [41] else if y=44 then [44] else if y=58 then [58] else []
def f0 (l:al):Int:=match l with
 | []=>0
 | y :: t=>gO y (decide (t.head? = some 62)) (decide (t.head? = some 61))
def eJ (k:Int):al:=([[],[43],[45],[42],[47],[38],[61],[60,62],[60],[60,61],[62],[62,61]]:List al).getD k.toNat []
theorem Je (y:UInt8) (t:al):sg (y :: t)=gS y (decide (t.head? = some 62)) (decide (t.head? = some 61)):=by
 unfold sg Yi
 simp only[List.find?_cons,List.find?_nil,gG,F6]
 generalize decide (t.head? = some 62)=a
 generalize decide (t.head? = some 61)=b
 have : ∀ a b:Bool,(Option.getD (match decide (y=60) && a with | true=>some [60,62] | false=>match decide (y=60) && b with | true=>some [60,61] | false=>match decide (y=62) && b with | true=>some [62,61] | false=>match decide (y=60) with | true=>some [60] | false=>match decide (y=62) with | true=>some [62] | false=>match decide (y=61) with | true=>some [61] | false=>match decide (y=38) with | true=>some [38] | false=>match decide (y=43) with | true=>some [43] | false=>match decide (y=45) with | true=>some [45] | false=>match decide (y=42) with | true=>some [42] | false=>match decide (y=47) with | true=>some [47] | false=>match decide (y=40) with | true=>some [40] | false=>match decide (y=41) with | true=>some [41] | false=>match decide (y=44) with | true=>some [44] | false=>match decide (y=58) with | true=>some [58] | false=>none) []:al)=gS y a b :=
  Dq (p:=fun y => ∀ a b:Bool,(Option.getD (match decide (y=60) && a with | true=>some [60,62] | false=>match decide (y=60) && b with | true=>some [60,61] | false=>match decide (y=62) && b with | true=>some [62,61] | false=>match decide (y=60) with | true=>some [60] | false=>match decide (y=62) with | true=>some [62] | false=>match decide (y=61) with | true=>some [61] | false=>match decide (y=38) with | true=>some [38] | false=>match decide (y=43) with | true=>some [43] | false=>match decide (y=45) with | true=>some [45] | false=>match decide (y=42) with | true=>some [42] | false=>match decide (y=47) with | true=>some [47] | false=>match decide (y=40) with | true=>some [40] | false=>match decide (y=41) with | true=>some [41] | false=>match decide (y=44) with | true=>some [44] | false=>match decide (y=58) with | true=>some [58] | false=>none) []:al)=gS y a b) (by decide +kernel) y
 exact this a b
theorem ot {c:UInt8} (hc:c=45∨c=40∨c=41∨c=44∨c=58) (l:al):(sg l=[c])=(l.head? = some c):=by
 apply propext
 constructor
 ·intro h
  have:=Oa l
  rw[h,F5] at this
  exact of_decide_eq_true this
 ·intro h
  cases l with
  | nil=>cases h
  | cons y t =>
   simp only[List.head?_cons,Option.some.injEq] at h
   subst h
   rw[Je]
   rcases hc with rfl | rfl | rfl | rfl | rfl <;> rfl
def ZQ (s:al):Int:=if eJ 11=s then 11 else if eJ 10=s then 10 else if eJ 9=s then 9 else if eJ 8=s then 8 else if eJ 7=s then 7 else if eJ 6=s then 6 else if eJ 5=s then 5 else if eJ 4=s then 4 else if eJ 3=s then 3 else if eJ 2=s then 2 else if eJ 1=s then 1 else 0
theorem Ob (y:UInt8) : ∀ a b:Bool,ZQ (gS y a b)=gO y a b∧(gO y a b≠0→gS y a b=eJ (gO y a b))∧0≤gO y a b∧gO y a b≤11 :=
 Dq (p:=fun y => ∀ a b:Bool,ZQ (gS y a b)=gO y a b∧(gO y a b≠0→gS y a b=eJ (gO y a b))∧0≤gO y a b∧gO y a b≤11) (by decide +kernel) y
theorem ZR (l:al):ZQ (sg l)=f0 l:=by
 cases l with
 | nil=>decide
 | cons y t =>
  rw[Je]
  exact(Ob y _ _).1
theorem BD {l:al} (h:f0 l≠0):sg l=eJ (f0 l):=by
 cases l with
 | nil=>exact absurd rfl h
 | cons y t =>
  rw[Je]
  exact(Ob y _ _).2.1 h
theorem tF (l:al):0≤f0 l∧f0 l≤11:=by
 cases l with
 | nil=>decide
 | cons y t=>exact(Ob y _ _).2.2
theorem BE {k:Int} (h0:0≤k) (h1:k≤11):zG k=some ((ba (eJ k),()),()):=by
 rw[SW,bC h0 (by show k < 12; omega)]
 have : ∀ k:Fin 12,List.getD ([(⟨#[]⟩:ByteArray),(⟨#[43]⟩:ByteArray),(⟨#[45]⟩:ByteArray),(⟨#[42]⟩:ByteArray),(⟨#[47]⟩:ByteArray),(⟨#[38]⟩:ByteArray),(⟨#[61]⟩:ByteArray),(⟨#[60,62]⟩:ByteArray),(⟨#[60]⟩:ByteArray),(⟨#[60,61]⟩:ByteArray),(⟨#[62]⟩:ByteArray),(⟨#[62,61]⟩:ByteArray)]:(List ByteArray)) k.val (⟨#[]⟩:ByteArray)=ba (eJ (k.val:Int)):=by decide +kernel
 have h:=this ⟨k.toNat,by omega⟩
 simp only[Int.toNat_of_nonneg h0] at h
 rw[h]
theorem BF {k:Int} (h0:0≤k) (h1:k≤11):zz k=some ((ba (eJ k),()),()):=by
 rw[Sz,bC h0 (by show k < 12; omega)]
 have : ∀ k:Fin 12,List.getD ([(⟨#[]⟩:ByteArray),(⟨#[43]⟩:ByteArray),(⟨#[45]⟩:ByteArray),(⟨#[42]⟩:ByteArray),(⟨#[47]⟩:ByteArray),(⟨#[38]⟩:ByteArray),(⟨#[61]⟩:ByteArray),(⟨#[60,62]⟩:ByteArray),(⟨#[60]⟩:ByteArray),(⟨#[60,61]⟩:ByteArray),(⟨#[62]⟩:ByteArray),(⟨#[62,61]⟩:ByteArray)]:(List ByteArray)) k.val (⟨#[]⟩:ByteArray)=ba (eJ (k.val:Int)):=by decide +kernel
 have h:=this ⟨k.toNat,by omega⟩
 simp only[Int.toNat_of_nonneg h0] at h
 rw[h]
theorem KU {least deep left op k:Int} {l:al} {b:Bool} {ns:List aa} (hl:l.length≤1000) (h0:0≤k) (h1:k≤11) :
  cr least deep left op k (ba l) b ns=cr least deep left (if eJ k=sg (bl l) then k else op) (k+1) (ba (bl l)) b ns:=by
 rw[q7,aB h1,N9 hl]
 simp only[Option.bind_some]
 rw[BE h0 h1]
 simp only[Option.bind_some,dF,decide_eq_true_eq]
 rw[wr (by omega) (by omega)]
 by_cases h:sg (bl l)=eJ k
 ·rw[if_pos h,if_pos h.symm]
 ·rw[if_neg h,if_neg (Ne.symm h)]
theorem Gd {least deep left:Int} {l:al} {b:Bool} {ns:List aa} (hl:l.length≤1000) :
  cr least deep left 0 1 (ba l) b ns=cr least deep left (f0 (bl l)) 12 (ba (bl l)) b ns:=by
 have:=aN (aF l)
 have st : ∀(op k:Int),0≤k→k≤11→cr least deep left op k (ba (bl l)) b ns=cr least deep left (if eJ k=sg (bl l) then k else op) (k+1) (ba (bl l)) b ns:=by
  intro op k h0 h1
  rw[KU (by omega) h0 h1,dM]
 rw[KU hl (by decide) (by decide),st _ (1+1) (by decide) (by decide),st _ (1+1+1) (by decide) (by decide),st _ (1+1+1+1) (by decide) (by decide),st _ (1+1+1+1+1) (by decide) (by decide),st _ (1+1+1+1+1+1) (by decide) (by decide),
  st _ (1+1+1+1+1+1+1) (by decide) (by decide),st _ (1+1+1+1+1+1+1+1) (by decide) (by decide),st _ (1+1+1+1+1+1+1+1+1) (by decide) (by decide),st _ (1+1+1+1+1+1+1+1+1+1) (by decide) (by decide),st _ (1+1+1+1+1+1+1+1+1+1+1) (by decide) (by decide)]
 rw[←ZR (bl l)]
 rfl
def at' (s l:al):Int:=(s.length:Int) - (l.length:Int)
theorem pi {s l:al} (h:l <:+ s) : ∃ pre,s=pre++l∧at' s l=(pre.length:Int):=by
 obtain⟨pre,h⟩:=h
 refine⟨pre,h.symm,?_⟩
 unfold at'
 rw[←h,List.length_append]
 omega
theorem H0 {s:al} {b:Bool} {ns:List aa} (hs:s.length≤1000) : ∀(l:al),l <:+ s→lF (ba s) (at' s l) b ns=some ((),((ba s,at' s (bl l),b,ns,()),()))
 | [],h=>by
  rw[tr,aA (by rw[aQ]; unfold at'; simp)]
  rfl
 | c :: l,h=>by
  obtain⟨pre,h1,h2⟩:=pi h
  have hl:pre.length < s.length:=by rw[h1]; simp
  rw[tr,h2,aB (by rw[aQ]; omega),la h1]
  by_cases hc:c=32
  ·subst hc
   have hl':l <:+ s:=List.IsSuffix.trans (List.suffix_cons _ _) h
   rw[if_pos (by rfl),wr (by omega) (by omega)]
   have e:(pre.length:Int)+1=at' s l:=by
    rw[←h2]
    unfold at'
    rw[List.length_cons]
    omega
   rw[e,H0 hs l hl']
   rfl
  ·have h0' : ¬((c.toNat:Int) == 32)=true:=by
    simp only[beq_iff_eq]
    intro e
    apply hc
    apply UInt8.toNat_inj.1
    show c.toNat=32
    omega
   rw[if_neg h0',←h2]
   have:bl (c :: l)=c :: l:=List.dropWhile_cons_of_neg (by simp[Yh,hc])
   rw[this]
theorem Oc {s l:al} {b:Bool} {ns:List aa} (hs:s.length≤1000) (h:l <:+ s):j0 (ba s) (at' s l) b ns=some ((),((ba s,at' s (bl l),b,ns,()),())):=by
 rw[Hn]
 exact H0 hs l h
theorem ak {a b c:al} (h:a <:+ b) (k:b <:+ c):a <:+ c:=List.IsSuffix.trans h k
theorem fZ (n:Nat) (l:al):l.drop n <:+ l:=List.drop_suffix n l
theorem iU {s l w:al} {b:Bool} {ns:List aa} (hs:s.length≤1000) (hw:w.length≤1000) (h:l <:+ s) :
  dN (ba w) (ba s) (at' s l) b ns=some (((!b && w.isPrefixOf (bl l)),()),((ba s,at' s (if(!b && w.isPrefixOf (bl l))=true then(bl l).drop w.length else bl l),b,ns,()),())):=by
 have hb:=ak (aF l) h
 rw[PE,Oc hs h]
 simp only[Option.bind_some]
 cases b with
 | true=>rfl
 | false =>
  simp only[Bool.false_eq_true,if_false,Bool.not_false,Bool.true_and,aQ]
  generalize bl l=m at hb
  obtain⟨pre,h1,h2⟩:=pi hb
  have hl:pre.length+m.length=s.length:=by rw[h1]; simp
  rw[h2,wr (by omega) (by omega)]
  by_cases hm:w.length≤m.length
  ·rw[aA (by omega),show(pre.length:Int)+(w.length:Int)=((pre.length+w.length:Nat):Int) by omega,Ap (by omega) (by omega),dF]
   have e:(s.take (pre.length+w.length)).drop pre.length=m.take w.length:=by
    rw[h1,List.take_append,List.drop_append]
    simp
   rw[e]
   have e2:decide (m.take w.length=w)=w.isPrefixOf m:=by
    rw[Bool.eq_iff_iff,decide_eq_true_eq,List.isPrefixOf_iff_prefix,List.prefix_iff_eq_take]
    exact eq_comm
   rw[e2]
   cases w.isPrefixOf m with
   | true =>
    simp only[Bool.not_true,Bool.false_eq_true,if_false,if_true]
    have e5:((pre.length+w.length:Nat):Int)=at' s (m.drop w.length):=by
     unfold at'
     rw[List.length_drop]
     omega
    rw[e5]
   | false =>
    simp only[Bool.not_false,if_true,Bool.false_eq_true,if_false]
    rw[h2]
  ·rw[aB (by omega)]
   have e2:w.isPrefixOf m=false:=by
    rw[Bool.eq_false_iff]
    intro hp
    exact hm (En hp)
   rw[e2]
   simp only[Bool.false_eq_true,if_false]
   rw[h2]
theorem BG {l:al} {b:Bool} {ns:List aa} (hl:l.length≤1000):j8 (ba l) b ns=some ((ba ((bl l).takeWhile bh),()),((ba ((bl l).dropWhile bh),ns,b,()),())):=by
 have:=aN (aF l)
 obtain⟨d1,d2,d3⟩:=Dp bh (bl l)
 rw[Hs,ri]
 simp only[Option.bind_some]
 rw[yD _ _ (by decide +kernel),ZP]
 simp only[Option.bind_some,aQ]
 rw[wr (by omega) (by omega),show((bl l).length:Int) - (((bl l).dropWhile bh).length:Int)=(((bl l).length - ((bl l).dropWhile bh).length:Nat):Int) by omega,HR (by omega),fR (by omega),d1,d2]
theorem KV {s pre l:al} {w:Nat} {b:Bool} {ns:List aa} (h:s=pre++l) (hw:w≤pre.length) :
  (wW (ba s) (w:Int) (pre.length:Int) fun y6=>(some ((y6,()),((ba s,(pre.length:Int),b,ns,()),()))))=(some ((ba (pre.drop w),()),((ba s,at' s l,b,ns,()),())):Option ((ByteArray×Unit)×(lf×Unit))):=by
 have hl:pre.length+l.length=s.length:=by rw[h]; simp
 rw[Ap hw (by omega)]
 congr 3
 ·congr 1
  rw[h,List.take_left' rfl]
 ·unfold at'
  congr 3
  omega
theorem H1 {s:al} {b:Bool} {ns:List aa} (hs:s.length≤1000) {w:Nat} : ∀(l pre:al),s=pre++l→w≤pre.length→dS (w:Int) (ba s) (pre.length:Int) b ns=some ((ba (pre.drop w++l.takeWhile bh),()),((ba s,at' s (l.dropWhile bh),b,ns,()),()))
 | [],pre,h,hw=>by
  have hl:pre.length=s.length:=by rw[h]; simp
  rw[v6,aA (by rw[aQ]; omega)]
  simpa using KV (b:=b) (ns:=ns) h hw
 | y :: l,pre,h,hw=>by
  have hl:pre.length < s.length:=by rw[h]; simp
  have ih:=H1 (b:=b) (ns:=ns) hs (w:=w) l (pre++[y]) (by rw[h]; simp) (by rw[List.length_append]; omega)
  rw[show((pre++[y]).length:Int)=(pre.length:Int)+1 by simp,List.drop_append_of_le_length hw] at ih
  have he:=KV (b:=b) (ns:=ns) h hw
  rw[v6,aB (by rw[aQ]; omega)]
  simp only[la h]
  rw[wr (by omega) (by omega)]
  have h36:((y.toNat:Int) == 36)=decide (y=36):=by
   rw[Bool.eq_iff_iff,beq_iff_eq,decide_eq_true_eq]
   constructor
   ·intro e
    apply UInt8.toNat_inj.1
    show y.toNat=36
    omega
   ·rintro rfl
    rfl
  rw[h36]
  cases hy:bh y with
  | true =>
   have e1:(y :: l).takeWhile bh=y :: l.takeWhile bh:=List.takeWhile_cons_of_pos hy
   have e2:(y :: l).dropWhile bh=l.dropWhile bh:=List.dropWhile_cons_of_pos hy
   rw[e1,e2]
   have e3:pre.drop w++y :: l.takeWhile bh=pre.drop w++[y]++l.takeWhile bh:=by simp
   rw[e3,←ih]
   simp only[bh,fG,dt,Bool.or_eq_true,Bool.and_eq_true,decide_eq_true_eq] at hy
   by_cases c1:65≤y.toNat
   ·rw[aB (by omega)]
    by_cases c2:y.toNat≤90
    ·rw[aB (by omega)]
    ·rw[aA (by omega),aB (by omega),aA (by omega)]
     exfalso
     rcases hy with(hy | hy) | rfl
     ·omega
     ·omega
     ·exact absurd c1 (by decide)
   ·rw[aA (by omega)]
    by_cases c3:48≤y.toNat
    ·rw[aB (by omega)]
     by_cases c4:y.toNat≤57
     ·rw[aB (by omega)]
     ·rw[aA (by omega)]
      exfalso
      rcases hy with(hy | hy) | rfl
      ·omega
      ·omega
      ·exact absurd c3 (by decide)
    ·rw[aA (by omega)]
     have:y=36:=by
      rcases hy with(hy | hy) | hy
      ·omega
      ·omega
      ·exact hy
     rw[aB this]
  | false =>
   have e1:(y :: l).takeWhile bh=[]:=List.takeWhile_cons_of_neg (by rw[hy]; decide)
   have e2:(y :: l).dropWhile bh=y :: l:=List.dropWhile_cons_of_neg (by rw[hy]; decide)
   rw[e1,e2,List.append_nil,←he]
   simp only[bh,fG,dt,Bool.or_eq_false_iff,Bool.and_eq_false_iff,decide_eq_false_iff_not] at hy
   obtain⟨⟨k1,k2⟩,k3⟩:=hy
   by_cases c1:65≤y.toNat
   ·rw[aB (by omega),aA (by omega),aB (by omega),aA (by omega),aA k3]
   ·rw[aA (by omega)]
    by_cases c3:48≤y.toNat
    ·rw[aB (by omega),aA (by omega),aA k3]
    ·rw[aA (by omega),aA k3]
theorem Ge {s l:al} {b:Bool} {ns:List aa} (hs:s.length≤1000) (h:l <:+ s):mZ (ba s) (at' s l) b ns=some ((ba (l.takeWhile bh),()),((ba s,at' s (l.dropWhile bh),b,ns,()),())):=by
 obtain⟨pre,h1,h2⟩:=pi h
 rw[Lq,h2,H1 hs l pre h1 (Nat.le_refl _)]
 simp
end Go.Proofs.YteaahciglahehaaGreatDoor.Abs
