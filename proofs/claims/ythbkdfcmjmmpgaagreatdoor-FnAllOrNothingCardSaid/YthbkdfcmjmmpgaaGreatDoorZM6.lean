/- What a formula says: both sides. -/
import Derived.Test.YthbkdfcmjmmpgaaGreatDoorZM5
set_option linter.unusedVariables false
set_option linter.unusedSimpArgs false
set_option linter.unusedSectionVars false
open Bool renaming and_eq_true→ah_,false_eq_true→aj_,not_true→bc_
open ByteArray renaming toList→ag_
open Go.IntKind renaming i64→hb_,wrap→ha_
open Go.Lib renaming decDigits→az_,parseIntB→dz_,parseUintB→gl_,parseUintM→fg_
open Int renaming tdiv→dn_,tmod→fn_,toNat_natCast→bu_,toNat_of_nonneg→dr_
open List renaming all_cons→do_,append_nil→bx_,drop_succ_cons→bz_,drop_zero→cu_,getD_eq_getElem?_getD→ao_,getElem?_eq_getElem→as_,getElem_mem→dq_,head?_cons→db_,length_append→ae_,length_cons→ak_,length_drop→dk_,length_eq_one_iff→ei_,length_nil→bi_,length_singleton→ac_,nil_append→da_
open List.cons renaming inj→fx_
open Nat renaming le_refl→aq_,lt_of_lt_of_le→cl_,pow_le_pow_right→fr_
open Option renaming bind_some→ab_
open Option.some renaming injEq→bg_,inj→cb_
open _root_ renaming ByteArray→aa_,beq_iff_eq→bt_,decide_eq_false→be_,decide_eq_true_eq→ai_,decide_eq_true→bd_,if_false→aw_,if_neg→ad_,if_pos→af_,if_true→ba_
namespace Go.Proofs.YthbkdfcmjmmpgaaGreatDoor.Abs
open Go
def dK (a:am) (r:ah):Bool:=cq r.1 a.1.1 a.2.1.1 && cq r.2.1 a.1.2.1 a.2.1.2.1
def dn (x:ab):am:=if x.1=2 then(x.2.2.2.1.1,x.2.2.2.1.1,()) else(x.2.2.2.1.1,x.2.2.2.2.1.1,())
theorem qw (r:ah) (a:am):po r a=some ((dK a r,()),()):=by
 rw[NE]
 unfold dK
 simp only[jR,ab_]
 cases cq r.1 a.1.1 a.2.1.1 <;> simp
theorem vq (a:am) (r:ah):pm a r=some ((dK a r,()),()):=by
 rw[Nx]
 unfold dK
 simp only[gj,ab_]
 cases cq r.1 a.1.1 a.2.1.1 <;> simp
theorem yZ (x:ab):jO x=some ((dn x,()),()):=by
 rw[yv]
 unfold dn
 by_cases h:x.1=2 <;> simp[h]
def i6 (l:List aj) (a:am):List ac:=(l.filter fun c=>dK a c.1).map fun c=>c.2.1
def jf (ev:Int→ac) (f:List ab) (l:List aj):List Int→List ac
 | []=>[]
 | k :: ks=>(if(fb f k).1=3 then i6 l (dn (fb f k)) else [ev k])++jf ev f l ks
def TQ (op:Int) (n:Int) (kid:Nat→ac) (args:List ac):ac :=
 if op=5 then(if ey (kid 0)=true then(if(kid 0).2.1≠0 then kid 1 else if n > 2 then kid 2 else vB false) else g7 (kid 0))
 else if op=8 then(if ey (kid 0)=true then vB (!decide ((kid 0).2.1≠0)) else g7 (kid 0))
 else if op=9 then(if cJ (kid 0)=true then vN ((kid 0).2.1.natAbs:Int) else g7 (kid 0))
 else if op=10 then(if my (kid 0)=true then vN ((pz (kid 0)).size:Int) else g7 (kid 0))
 else Av op args
def XW (op:Int) (a b:ac):ac:=if op=1 then jS a b else if op=2 then Al a b else if op=3 then IU a b else if op=4 then IQ a b else if op=5 then Ap a b else Aq op a b
def bV:Nat→List ab→List aj→Int→ac
 | 0,_,_,_=>v0
 | n+1,f,l,k =>
  let x:=fb f k
  let kid:=fun i:Nat=>bV n f l (x.2.2.2.2.2.1.getD i 0)
  if x.1=1 then x.2.2.1 else if x.1=2 then fM l x.2.2.2.1.1 else if x.1=3 then vE 2 else if x.1=4 then Fq (kid 0)
  else if x.1=6 then TQ x.2.1 (kl x) kid (jf (bV n f l) f l x.2.2.2.2.2.1) else XW x.2.1 (kid 0) (kid 1)
section
variable {f:List ab} {l:List aj} (hl:l.length≤1000) (hf:f.length≤10000000)
include hl hf
theorem vr {k:Int} {i:Int} {a:am} : ∀(ys pre:List aj) (acc:List ac),l=pre++ys→acc.length+ys.length≤1000000→jQ f k l i (pre.length:Int) acc a.1 a.2.1=m7 f k l (ha_ hb_ (i+1)) (acc++i6 ys a)
 | [],pre,acc,he,hb=>by
  rw[yP,aD (bj he)]
  simp[i6]
 | y :: ys,pre,acc,he,hb=>by
  have hb':acc.length+(ys.length+1)≤1000000:=by simpa using hb
  rw[yP,aI (bA he),bD he,qw,ab_,aK he (by omega)]
  show(if dK a y.1=true then _ else _)=_
  cases ha:dK a y.1
  ·rw[ad_ (by decide),vr ys _ acc (aB he) (by omega)]
   simp[i6,ha]
  ·rw[af_ rfl,bD he,bg (LU (by simp only[ac_]; omega)),vr ys _ _ (aB he) (by simp only[ae_,ac_]; omega)]
   simp[i6,ha]
theorem rm {k:Int} {x:ab} (hk0:0≤k) (hk:f[k.toNat]? = some x) {ks:List Int} {i:Int} : ∀(ys pre:List aj) (acc:List ac),l=pre++ys→acc.length+ys.length≤1000000→iY f l k ks (ks.length:Int) i l (l.length:Int) (pre.length:Int) acc=kk f l ks (ks.length:Int) (ha_ hb_ (i+1)) (acc++i6 ys (dn x))
 | [],pre,acc,he,hb=>by
  rw[wC,aD (bj he)]
  simp[i6]
 | y :: ys,pre,acc,he,hb=>by
  have hb':acc.length+(ys.length+1)≤1000000:=by simpa using hb
  rw[wC,aI (bA he),bD he,bP hk0 hk,yZ,ab_,vq,ab_,aK he (by omega)]
  show(if dK (dn x) y.1=true then _ else _)=_
  cases ha:dK (dn x) y.1
  ·rw[ad_ (by decide),rm hk0 hk ys _ acc (aB he) (by omega)]
   simp[i6,ha]
  ·rw[af_ rfl,bg (LU (by simp only[ac_]; omega)),rm hk0 hk ys _ _ (aB he) (by simp only[ae_,ac_]; omega)]
   simp[i6,ha]
omit hf in
theorem Aw (a:am):(i6 l a).length≤1000:=by
 unfold i6
 rw[List.length_map]
 exact Nat.le_trans (List.length_filter_le _ _) hl
theorem vt {k:Int} {x:ab} {ev:Int→ac} (hk0:0≤k) (hk:f[k.toNat]? = some x) (hkl:x.2.2.2.2.2.1.length≤100) (hev : ∀ j∈x.2.2.2.2.2.1,0≤j∧j < f.length∧e8 f j l=some ((ev j,()),())) :
  ∀(ys pre:List Int) (acc:List ac),x.2.2.2.2.2.1=pre++ys→acc.length≤pre.length*1000→m7 f k l (pre.length:Int) acc=some ((acc++jf ev f l ys,()),())
 | [],pre,acc,he,hb=>by
  rw[Ba,bP hk0 hk,aD (bj he)]
  simp[jf]
 | y :: ys,pre,acc,he,hb=>by
  have hlen:pre.length < 100:=by
   rw[he,ae_,ak_] at hkl
   omega
  obtain⟨y0,y1,y2⟩:=hev y (by rw[he]; simp)
  obtain⟨z,hz⟩ : ∃ z,f[y.toNat]? = some z:=⟨f[y.toNat]'(by omega),as_ _⟩
  have hnz:fb f y=z:=by
   unfold fb
   rw[ao_,hz]
   rfl
  rw[Ba,bP hk0 hk,aI (bA he),bP hk0 hk,bD he,bP y0 hz]
  unfold jf
  rw[hnz]
  by_cases h3:z.1=3
  ·rw[ad_ (by simp[h3]),af_ h3,show jQ f k l (pre.length:Int) 0 acc z.2.2.2.1.1 z.2.2.2.2.1.1=jQ f k l (pre.length:Int) (([]:List aj).length:Int) acc (z.2.2.2.1.1,z.2.2.2.2.1.1,()).1 (z.2.2.2.1.1,z.2.2.2.2.1.1,()).2.1 from rfl,vr hl hf l [] acc rfl (by omega),aK he (by omega),vt hk0 hk hkl hev ys _ _ (aB he)]
   ·have ha:dn z=(z.2.2.2.1.1,z.2.2.2.2.1.1,()):=by
     unfold dn
     rw[ad_ (by omega)]
    rw[ha]
    simp
   ·have:=Aw hl (z.2.2.2.1.1,z.2.2.2.2.1.1,())
    simp only[ae_,ac_]
    omega
  ·rw[af_ (by simp[h3]),ad_ h3,bP hk0 hk,bD he,y2,ab_,bg (LU (by simp only[ac_]; omega)),aK he (by omega),vt hk0 hk hkl hev ys _ _ (aB he)]
   ·simp
   ·simp only[ae_,ac_]
    omega
theorem nh {x:ab} {ev:Int→ac} (hkl:x.2.2.2.2.2.1.length≤100) (hev : ∀ j∈x.2.2.2.2.2.1,0≤j∧j < f.length∧gh f j l=some ((ev j,()),())) :
  ∀(ys pre:List Int) (acc:List ac),x.2.2.2.2.2.1=pre++ys→acc.length≤pre.length*1000→kk f l x.2.2.2.2.2.1 (x.2.2.2.2.2.1.length:Int) (pre.length:Int) acc=some ((acc++jf ev f l ys,()),())
 | [],pre,acc,he,hb=>by
  rw[wu,aD (bj he)]
  simp[jf]
 | y :: ys,pre,acc,he,hb=>by
  have hlen:pre.length < 100:=by
   rw[he,ae_,ak_] at hkl
   omega
  obtain⟨y0,y1,y2⟩:=hev y (by rw[he]; simp)
  obtain⟨z,hz⟩ : ∃ z,f[y.toNat]? = some z:=⟨f[y.toNat]'(by omega),as_ _⟩
  have hnz:fb f y=z:=by
   unfold fb
   rw[ao_,hz]
   rfl
  rw[wu,aI (bA he),bD he,bP y0 hz]
  unfold jf
  rw[hnz]
  by_cases h3:z.1=3
  ·rw[ad_ (by simp[h3]),af_ h3,show iY f l y x.2.2.2.2.2.1 (x.2.2.2.2.2.1.length:Int) (pre.length:Int) l (l.length:Int) 0 acc=iY f l y x.2.2.2.2.2.1 (x.2.2.2.2.2.1.length:Int) (pre.length:Int) l (l.length:Int) (([]:List aj).length:Int) acc from rfl,rm hl hf y0 hz l [] acc rfl (by omega),aK he (by omega),nh hkl hev ys _ _ (aB he)]
   ·simp
   ·have:=Aw hl (dn z)
    simp only[ae_,ac_]
    omega
  ·rw[af_ (by simp[h3]),ad_ h3,y2,ab_,bg (LU (by simp only[ac_]; omega)),aK he (by omega),nh hkl hev ys _ _ (aB he)]
   ·simp
   ·simp only[ae_,ac_]
    omega
omit hf in
theorem CV {ev:Int→ac} : ∀ ks:List Int,(jf ev f l ks).length≤ks.length*1001
 | []=>by simp[jf]
 | k :: ks=>by
  have:=CV (ev:=ev) ks
  have h:=Aw hl (dn (fb f k))
  unfold jf
  rw[ae_,ak_]
  split
  ·omega
  ·rw[ac_]
   omega
omit hl hf in
theorem Fy {ev:Int→ac} (hv : ∀ c∈l,aA c.2.1=true) : ∀ ks:List Int,(∀ j∈ks,aA (ev j)=true) → ∀ v∈jf ev f l ks,aA v=true
 | [],_,v,h=>by cases h
 | k :: ks,he,v,h=>by
  unfold jf at h
  rcases List.mem_append.1 h with h | h
  ·split at h
   ·unfold i6 at h
    obtain⟨c,hc,rfl⟩:=List.mem_map.1 h
    exact hv c (List.mem_filter.1 hc).1
   ·rw[List.mem_singleton.1 h]
    exact he k (List.mem_cons_self ..)
  ·exact Fy hv ks (fun j hj=>he j (List.mem_cons_of_mem _ hj)) v h
theorem CW {x:ab} (h:dF x=true):(x.1=1∧aA x.2.2.1=true)∨x.1=2∨x.1=3∨(x.1=4∧kl x=1)∨(x.1=5∧kl x=2∧cq x.2.1 1 11=true)∨(x.1=6∧n4 x.2.1 (kl x)=true):=by
 unfold dF at h
 by_cases h1:x.1=1
 ·rw[af_ h1] at h
  simp only[ah_] at h
  exact .inl ⟨h1,h.1.1.2⟩
 rw[ad_ h1] at h
 by_cases h2:x.1=2
 ·exact .inr (.inl h2)
 rw[ad_ h2] at h
 by_cases h3:x.1=3
 ·exact .inr (.inr (.inl h3))
 rw[ad_ h3] at h
 by_cases h4:x.1=4
 ·rw[af_ h4] at h
  simp only[ah_,ai_] at h
  exact .inr (.inr (.inr (.inl ⟨h4,h.2⟩)))
 rw[ad_ h4] at h
 by_cases h5:x.1=5
 ·rw[af_ h5] at h
  simp only[ah_,ai_] at h
  exact .inr (.inr (.inr (.inr (.inl ⟨h5,h.2,h.1.1.1.1⟩))))
 rw[ad_ h5] at h
 by_cases h6:x.1=6
 ·rw[af_ h6] at h
  simp only[ah_,ai_] at h
  exact .inr (.inr (.inr (.inr (.inr ⟨h6,h.1.1.1⟩))))
 rw[ad_ h6] at h
 cases h
theorem CX {op k:Int} (h:n4 op k=true):(op=5∧(k=2∨k=3))∨((op=1∨op=2∨op=3∨op=4∨op=6∨op=7)∧1≤k∧k≤10)∨((op=8∨op=9∨op=10)∧k=1):=by
 unfold n4 at h
 by_cases h5:op=5
 ·rw[af_ h5] at h
  simp only[Bool.or_eq_true,ai_] at h
  exact .inl ⟨h5,h⟩
 ·rw[ad_ h5] at h
  split at h
  ·rename_i h7
   have:=bC.1 h7
   have:=bC.1 h
   exact .inr (.inl ⟨by omega,by omega⟩)
  ·split at h
   ·rename_i h8
    have:=bC.1 h8
    simp only[ai_] at h
    exact .inr (.inr ⟨by omega,h⟩)
   ·cases h
omit hl hf in
theorem KA {v:ac} (h:cJ v=true):(if v.2.1 < IntKind.i64.wrap (0 - v.2.1) then IntKind.i64.wrap (0 - v.2.1) else v.2.1)=(v.2.1.natAbs:Int):=by
 have:=cu h
 rw[wr (by omega) (by omega)]
 split <;> omega
omit hl hf in
theorem N6 {n:Int} (h0 : -1000000000000000≤n) (h1:n≤1000000000000000):bnd n=vN n:=by
 unfold bnd
 rw[af_ (bC.2 ⟨h0,h1⟩)]
theorem Rr (A : ∀(i:Nat) (x:ab),f[i]? = some x→lq f i x) (hv : ∀ c∈l,aA c.2.1=true) : ∀(n:Nat) (k:Int),0≤k→k < n→k < f.length →
  e8 f k l=some ((bV n f l k,()),())∧gh f k l=some ((bV n f l k,()),())∧aA (bV n f l k)=true
 | 0,k,h0,h1,_=>by omega
 | n+1,k,h0,h1,h2=>by
  obtain⟨x,hx⟩ : ∃ y,f[k.toNat]? = some y:=⟨f[k.toNat]'(by omega),as_ _⟩
  have hst:=A _ _ hx
  have hnx:fb f k=x:=by
   unfold fb
   rw[ao_,hx]
   rfl
  have hk : ∀ j∈x.2.2.2.2.2.1,e8 f j l=some ((bV n f l j,()),())∧gh f j l=some ((bV n f l j,()),())∧aA (bV n f l j)=true:=fun j hj=>by
   have:=hst.2 j hj
   exact Rr A hv n j this.1 (by omega) (by omega)
  rw[Tg,Nz,bP h0 hx,bP h0 hx]
  unfold bV
  simp only[hnx]
  rcases CW hl hf hst.1 with⟨k1,ho⟩ | k2 | k3 | ⟨k4,hkl⟩ | ⟨k5,hkl,hop⟩ | ⟨k6,hop⟩
  ·simp[k1,ho]
  ·simp[k2,NX (xs:=l) (by omega),Hu (xs:=l) (by omega),Au hv]
  ·simp[k3,dA,gC,nf (n:=2) (by decide) (by decide)]
  ·obtain⟨a,ha⟩ : ∃ a,x.2.2.2.2.2.1=[a]:=ei_.1 (by unfold kl at hkl; omega)
   obtain⟨e1,e2,e3⟩:=hk a (by rw[ha]; simp)
   have hi : ∀(d:Int) (g:Int→Option ((ac×Unit)×Unit)),ix [a] 0 d g=g a:=fun d g=>bP (by decide) rfl
   simp[k4,ha,hi,e1,e2,Es (ca e3),Et (ca e3),YZ]
  ·obtain⟨a,b,ha⟩ : ∃ a b,x.2.2.2.2.2.1=[a,b]:=by
    cases hq:x.2.2.2.2.2.1 with
    | nil=>unfold kl at hkl; rw[hq] at hkl; simp at hkl
    | cons a t=>cases t with
     | nil=>unfold kl at hkl; rw[hq] at hkl; simp at hkl
     | cons b t=>cases t with
      | nil=>exact⟨a,b,rfl⟩
      | cons c t=>unfold kl at hkl; rw[hq] at hkl; simp at hkl; omega
   obtain⟨e1,e2,e3⟩:=hk a (by rw[ha]; simp)
   obtain⟨g1,g2,g3⟩:=hk b (by rw[ha]; simp)
   have hi : ∀(d:Int) (g:Int→Option ((ac×Unit)×Unit)),ix [a,b] 0 d g=g a:=fun d g=>bP (by decide) rfl
   have hj : ∀(d:Int) (g:Int→Option ((ac×Unit)×Unit)),ix [a,b] 1 d g=g b:=fun d g=>bP (by decide) rfl
   have b1:=ca e3
   have b2:=ca g3
   simp only[k5,ha,hi,hj,e1,e2,g1,g2,ab_,IR b1 b2,IT b1 b2,XO b1 b2,Fs b1 b2,VD b1 b2,Ks b1 b2,XP b1 b2,NK b1 b2,TE b1 b2,Hj b1 b2,XR b1 b2,NQ b1 b2,List.getD_cons_zero,List.getD_cons_succ]
   unfold XW
   by_cases o1:x.2.1=1
   ·simp[o1,DC]
   by_cases o2:x.2.1=2
   ·simp[o2,TM]
   by_cases o3:x.2.1=3
   ·simp[o3,YX]
   by_cases o4:x.2.1=4
   ·simp[o4,YY]
   by_cases o5:x.2.1=5
   ·simp[o5,VM]
   simp[o1,o2,o3,o4,o5,VN]
  ·have hcs:=CX hl hf hop
   have hn10:x.2.2.2.2.2.1.length≤10:=by unfold kl at hcs; omega
   have hne:1≤x.2.2.2.2.2.1.length:=by unfold kl at hcs; omega
   obtain⟨a,t,hat⟩ : ∃ a t,x.2.2.2.2.2.1=a :: t:=by
    cases hq:x.2.2.2.2.2.1 with
    | nil=>rw[hq] at hne; simp at hne
    | cons a t=>exact⟨a,t,rfl⟩
   obtain⟨e1,e2,e3⟩:=hk a (by rw[hat]; simp)
   have hi : ∀(d:Int) (g:Int→Option ((ac×Unit)×Unit)),ix x.2.2.2.2.2.1 0 d g=g a:=fun d g=>bP (by decide) (by rw[hat]; rfl)
   have hg0:x.2.2.2.2.2.1.getD 0 0=a:=by rw[hat]; rfl
   rw[Tm,Hc,bP h0 hx]
   have b1:=ca e3
   unfold TQ
   rcases hcs with⟨o5,hk2⟩ | ⟨oo,_⟩ | ⟨oo,_⟩
   ·
    have hm : ∀ j:Nat,j < x.2.2.2.2.2.1.length → ∃ c,x.2.2.2.2.2.1[j]? = some c∧x.2.2.2.2.2.1.getD j 0=c∧e8 f c l=some ((bV n f l c,()),())∧gh f c l=some ((bV n f l c,()),())∧aA (bV n f l c)=true:=fun j hj=>by
     refine⟨x.2.2.2.2.2.1[j],as_ _,by simp[ao_,hj],hk _ (dq_ _)⟩
    rw[Ha]
    simp only[k6,o5,hi,hg0,e1,e2,ab_,tS e3,lE b1,eU b1,mw,tN,beq_self_eq_true,ba_]
    unfold kl at hk2
    cases ht:ey (bV n f l a) with
    | false =>
     have:=cI (bV n f l a)
     simp[this,ng]
    | true =>
     obtain⟨c,c1,c2,c3,c4,c5⟩:=hm 1 (by omega)
     have hi1 : ∀(d:Int) (g:Int→Option ((ac×Unit)×Unit)),ix x.2.2.2.2.2.1 1 d g=g c:=fun d g=>bP (by decide) c1
     simp only[ba_,hi1,c2,c3,c4,ab_]
     by_cases hz:(bV n f l a).2.1=0
     ·rcases hk2 with h22 | h33
      ·have h22':x.2.2.2.2.2.1.length=2:=by omega
       simp[hz,v0,kl,h22',Rq]
      ·obtain⟨d,d1,d2,d3,d4,d5⟩:=hm 2 (by omega)
       have hi2 : ∀(z:Int) (g:Int→Option ((ac×Unit)×Unit)),ix x.2.2.2.2.2.1 2 z g=g d:=fun z g=>bP (by decide) d1
       have h33':x.2.2.2.2.2.1.length=3:=by omega
       have d2':x.2.2.2.2.2.1[2]?.getD 0=d:=by rw[←ao_]; exact d2
       have d6 : ∀ hh:2 < x.2.2.2.2.2.1.length,x.2.2.2.2.2.1[2]'hh=d:=fun hh=>by
        rw[as_ hh] at d1
        exact cb_ d1
       simp[hz,v0,kl,h33',hi2,d6,d3,d4,d5]
     ·have c2':x.2.2.2.2.2.1[1]?.getD 0=c:=by rw[←ao_]; exact c2
      simp[hz,v0,c5,c2']
   ·
    have h5:x.2.1≠5:=by omega
    have h8:x.2.1≠8:=by omega
    have h9:x.2.1≠9:=by omega
    have h10:x.2.1≠10:=by omega
    have ea:=vt hl hf (ev:=bV n f l) h0 hx (by omega) (fun j hj=>⟨(hst.2 j hj).1,by have:=(hst.2 j hj).2.1; omega,(hk j hj).1⟩) x.2.2.2.2.2.1 [] [] rfl (by simp)
    have eb:=nh hl hf (x:=x) (ev:=bV n f l) (by omega) (fun j hj=>⟨(hst.2 j hj).1,by have:=(hst.2 j hj).2.1; omega,(hk j hj).2.1⟩) x.2.2.2.2.2.1 [] [] rfl (by simp)
    have hal:=CV hl (f:=f) (ev:=bV n f l) x.2.2.2.2.2.1
    have hav:=Fy (f:=f) (ev:=bV n f l) hv x.2.2.2.2.2.1 (fun j hj=>(hk j hj).2.2)
    simp only[da_] at ea eb
    generalize jf (bV n f l) f l x.2.2.2.2.2.1=args at ea eb hal hav ⊢
    have ea':Im f k l=some ((args,()),()):=by rw[Tk]; exact ea
    have eb':cA f x l=some ((args,()),()):=by rw[Cx]; exact eb
    have hlen:args.length≤100000000:=by omega
    simp only[ea',eb',ab_,TP hlen hav oo,CT hlen hav,Hw hlen hav,CU hlen hav]
    have hfo:=N5 (op:=x.2.1) hav hlen
    unfold Av at hfo ⊢
    rcases oo with o | o | o | o | o | o <;> simp[k6,o] <;> simpa[o] using hfo
   ·
    simp only[k6,hi,hg0,e1,e2,ab_]
    rw[Hb]
    obtain⟨t,e4,e5⟩:=tR b1
    simp only[tS e3,Ao b1,tN,kF,lE b1,eI b1,e4,eU b1,mw,ik,ab_,show((0,0,({data := #[]}:aa_),()):ac)=v0 from rfl,IR b1 (b:=v0) (by decide)]
    rcases oo with o | o | o
    ·simp only[o]
     cases ht:ey (bV n f l a) with
     | false =>
      have:=cI (bV n f l a)
      simp[this,ng]
     | true=>simp[v0,Rq]
    ·simp only[o]
     have h0n:cJ v0=true:=by decide
     cases ht:cJ (bV n f l a) with
     | false =>
      have:=cI (bV n f l a)
      have ha:jS (bV n f l a) v0=g7 (bV n f l a):=by
       unfold jS qP
       rw[ad_ (by rw[ht]; decide)]
      simp[ha,this,ng]
     | true =>
      have hr:=cu ht
      have ha:jS (bV n f l a) v0=vN (bV n f l a).2.1:=by
       unfold jS qP
       rw[af_ ht,af_ h0n]
       show bnd ((bV n f l a).2.1+0)=_
       rw[Int.add_zero,N6 hr.1 hr.2]
      have hN:aA (vN (bV n f l a).2.1)=true:=yW hr.1 hr.2
      have hneg:Fq (vN (bV n f l a).2.1)=vN (-(bV n f l a).2.1):=by
       unfold Fq Al qP
       rw[af_ h0n,af_ (by unfold cJ; rw[hN]; rfl)]
       show bnd (0 - (bV n f l a).2.1)=_
       rw[N6 (by omega) (by omega)]
       congr 1
       omega
      have habs:=KA ht
      have hok:aA (vN ((bV n f l a).2.1.natAbs:Int))=true:=yW (by omega) (by omega)
      simp only[ha,habs,Es (ca hN),hneg,ab_]
      by_cases hlt:(bV n f l a).2.1 < 0
      ·have:(-(bV n f l a).2.1)=((bV n f l a).2.1.natAbs:Int):=by omega
       simp[vN,hlt,this] at hok ⊢
       exact hok
      ·have:(bV n f l a).2.1=((bV n f l a).2.1.natAbs:Int):=by omega
       simp[vN,hlt] at hok ⊢
       exact⟨this,hok⟩
    ·simp only[o]
     cases ht:my (bV n f l a) with
     | false =>
      have:=cI (bV n f l a)
      simp[this,ng]
     | true =>
      have hz:=rk e3
      have hb:=N6 (n:=((pz (bV n f l a)).size:Int)) (by omega) (by omega)
      have hok:aA (vN ((pz (bV n f l a)).size:Int))=true:=yW (by omega) (by omega)
      rw[e5 ht]
      simp[v0,hb,hok]
theorem N7 (A : ∀(i:Nat) (x:ab),f[i]? = some x→lq f i x) (hv : ∀ c∈l,aA c.2.1=true) : ∀(n:Nat) (k:Int),0≤k→k < n→k < f.length →
  gh f k l=some ((bV n f l k,()),())∧aA (bV n f l k)=true
 | 0,k,h0,h1,_=>by omega
 | n+1,k,h0,h1,h2=>by
  obtain⟨x,hx⟩ : ∃ y,f[k.toNat]? = some y:=⟨f[k.toNat]'(by omega),as_ _⟩
  have hst:=A _ _ hx
  have hnx:fb f k=x:=by
   unfold fb
   rw[ao_,hx]
   rfl
  have hk : ∀ j∈x.2.2.2.2.2.1,gh f j l=some ((bV n f l j,()),())∧aA (bV n f l j)=true:=fun j hj=>by
   have:=hst.2 j hj
   exact N7 A hv n j this.1 (by omega) (by omega)
  rw[Nz,bP h0 hx]
  unfold bV
  simp only[hnx]
  rcases CW hl hf hst.1 with⟨k1,ho⟩ | k2 | k3 | ⟨k4,hkl⟩ | ⟨k5,hkl,hop⟩ | ⟨k6,hop⟩
  ·simp[k1,ho]
  ·simp[k2,Hu (xs:=l) (by omega),Au hv]
  ·simp[k3,gC,nf (n:=2) (by decide) (by decide)]
  ·obtain⟨a,ha⟩ : ∃ a,x.2.2.2.2.2.1=[a]:=ei_.1 (by unfold kl at hkl; omega)
   obtain⟨e2,e3⟩:=hk a (by rw[ha]; simp)
   have hi : ∀(d:Int) (g:Int→Option ((ac×Unit)×Unit)),ix [a] 0 d g=g a:=fun d g=>bP (by decide) rfl
   simp[k4,ha,hi,e2,Et (ca e3),YZ]
  ·obtain⟨a,b,ha⟩ : ∃ a b,x.2.2.2.2.2.1=[a,b]:=by
    cases hq:x.2.2.2.2.2.1 with
    | nil=>unfold kl at hkl; rw[hq] at hkl; simp at hkl
    | cons a t=>cases t with
     | nil=>unfold kl at hkl; rw[hq] at hkl; simp at hkl
     | cons b t=>cases t with
      | nil=>exact⟨a,b,rfl⟩
      | cons c t=>unfold kl at hkl; rw[hq] at hkl; simp at hkl; omega
   obtain⟨e2,e3⟩:=hk a (by rw[ha]; simp)
   obtain⟨g2,g3⟩:=hk b (by rw[ha]; simp)
   have hi : ∀(d:Int) (g:Int→Option ((ac×Unit)×Unit)),ix [a,b] 0 d g=g a:=fun d g=>bP (by decide) rfl
   have hj : ∀(d:Int) (g:Int→Option ((ac×Unit)×Unit)),ix [a,b] 1 d g=g b:=fun d g=>bP (by decide) rfl
   have b1:=ca e3
   have b2:=ca g3
   simp only[k5,ha,hi,hj,e2,g2,ab_,IT b1 b2,Fs b1 b2,Ks b1 b2,NK b1 b2,Hj b1 b2,NQ b1 b2,List.getD_cons_zero,List.getD_cons_succ]
   unfold XW
   by_cases o1:x.2.1=1
   ·simp[o1,DC]
   by_cases o2:x.2.1=2
   ·simp[o2,TM]
   by_cases o3:x.2.1=3
   ·simp[o3,YX]
   by_cases o4:x.2.1=4
   ·simp[o4,YY]
   by_cases o5:x.2.1=5
   ·simp[o5,VM]
   simp[o1,o2,o3,o4,o5,VN]
  ·have hcs:=CX hl hf hop
   have hn10:x.2.2.2.2.2.1.length≤10:=by unfold kl at hcs; omega
   have hne:1≤x.2.2.2.2.2.1.length:=by unfold kl at hcs; omega
   obtain⟨a,t,hat⟩ : ∃ a t,x.2.2.2.2.2.1=a :: t:=by
    cases hq:x.2.2.2.2.2.1 with
    | nil=>rw[hq] at hne; simp at hne
    | cons a t=>exact⟨a,t,rfl⟩
   obtain⟨e2,e3⟩:=hk a (by rw[hat]; simp)
   have hi : ∀(d:Int) (g:Int→Option ((ac×Unit)×Unit)),ix x.2.2.2.2.2.1 0 d g=g a:=fun d g=>bP (by decide) (by rw[hat]; rfl)
   have hg0:x.2.2.2.2.2.1.getD 0 0=a:=by rw[hat]; rfl
   rw[Hc]
   have b1:=ca e3
   unfold TQ
   rcases hcs with⟨o5,hk2⟩ | ⟨oo,_⟩ | ⟨oo,_⟩
   ·
    have hm : ∀ j:Nat,j < x.2.2.2.2.2.1.length → ∃ c,x.2.2.2.2.2.1[j]? = some c∧x.2.2.2.2.2.1.getD j 0=c∧gh f c l=some ((bV n f l c,()),())∧aA (bV n f l c)=true:=fun j hj=>by
     refine⟨x.2.2.2.2.2.1[j],as_ _,by simp[ao_,hj],hk _ (dq_ _)⟩
    rw[Ha]
    simp only[k6,o5,hi,hg0,e2,ab_,lE b1,eU b1,mw,beq_self_eq_true,ba_]
    unfold kl at hk2
    cases ht:ey (bV n f l a) with
    | false =>
     have:=cI (bV n f l a)
     simp[this,ng]
    | true =>
     obtain⟨c,c1,c2,c4,c5⟩:=hm 1 (by omega)
     have hi1 : ∀(d:Int) (g:Int→Option ((ac×Unit)×Unit)),ix x.2.2.2.2.2.1 1 d g=g c:=fun d g=>bP (by decide) c1
     simp only[ba_,hi1,c2,c4,ab_]
     by_cases hz:(bV n f l a).2.1=0
     ·rcases hk2 with h22 | h33
      ·have h22':x.2.2.2.2.2.1.length=2:=by omega
       simp[hz,v0,kl,h22',Rq]
      ·obtain⟨d,d1,d2,d4,d5⟩:=hm 2 (by omega)
       have hi2 : ∀(z:Int) (g:Int→Option ((ac×Unit)×Unit)),ix x.2.2.2.2.2.1 2 z g=g d:=fun z g=>bP (by decide) d1
       have h33':x.2.2.2.2.2.1.length=3:=by omega
       have d2':x.2.2.2.2.2.1[2]?.getD 0=d:=by rw[←ao_]; exact d2
       have d6 : ∀ hh:2 < x.2.2.2.2.2.1.length,x.2.2.2.2.2.1[2]'hh=d:=fun hh=>by
        rw[as_ hh] at d1
        exact cb_ d1
       simp[hz,v0,kl,h33',hi2,d6,d4,d5]
     ·have c2':x.2.2.2.2.2.1[1]?.getD 0=c:=by rw[←ao_]; exact c2
      simp[hz,v0,c5,c2']
   ·
    have h5:x.2.1≠5:=by omega
    have h8:x.2.1≠8:=by omega
    have h9:x.2.1≠9:=by omega
    have h10:x.2.1≠10:=by omega
    have eb:=nh hl hf (x:=x) (ev:=bV n f l) (by omega) (fun j hj=>⟨(hst.2 j hj).1,by have:=(hst.2 j hj).2.1; omega,(hk j hj).1⟩) x.2.2.2.2.2.1 [] [] rfl (by simp)
    have hal:=CV hl (f:=f) (ev:=bV n f l) x.2.2.2.2.2.1
    have hav:=Fy (f:=f) (ev:=bV n f l) hv x.2.2.2.2.2.1 (fun j hj=>(hk j hj).2)
    simp only[da_] at eb
    generalize jf (bV n f l) f l x.2.2.2.2.2.1=args at eb hal hav ⊢
    have eb':cA f x l=some ((args,()),()):=by rw[Cx]; exact eb
    have hlen:args.length≤100000000:=by omega
    simp only[eb',ab_,CT hlen hav,Hw hlen hav,CU hlen hav]
    have hfo:=N5 (op:=x.2.1) hav hlen
    unfold Av at hfo ⊢
    rcases oo with o | o | o | o | o | o <;> simp[k6,o] <;> simpa[o] using hfo
   ·
    simp only[k6,hi,hg0,e2,ab_]
    rw[Hb]
    obtain⟨t,e4,e5⟩:=tR b1
    simp only[lE b1,eI b1,e4,eU b1,mw,ik,ab_,show((0,0,({data := #[]}:aa_),()):ac)=v0 from rfl]
    rcases oo with o | o | o
    ·simp only[o]
     cases ht:ey (bV n f l a) with
     | false =>
      have:=cI (bV n f l a)
      simp[this,ng]
     | true=>simp[v0,Rq]
    ·simp only[o]
     cases ht:cJ (bV n f l a) with
     | false =>
      have:=cI (bV n f l a)
      simp[this,ng]
     | true =>
      have hr:=cu ht
      have habs:=KA ht
      have hok:aA (vN ((bV n f l a).2.1.natAbs:Int))=true:=yW (by omega) (by omega)
      simp only[habs]
      simpa using hok
    ·simp only[o]
     cases ht:my (bV n f l a) with
     | false =>
      have:=cI (bV n f l a)
      simp[this,ng]
     | true =>
      have hz:=rk e3
      have hok:aA (vN ((pz (bV n f l a)).size:Int))=true:=yW (by omega) (by omega)
      rw[e5 ht]
      simp[hok]
end
def fN (f:List ab) (l:List aj):ac:=let v:=bV f.length f l ((f.length:Int) - 1); if v.1=0 then vN 0 else v
def LZ (f:List ab) (l:List aj):ac:=if fg f=true then(if kW l=true then fN f l else vE 3) else vE 3
section
variable {f:List ab} {l:List aj} (hl:l.length≤10000000) (hvs : ∀ c∈l,c.2.1.2.2.1.size≤9223372036854775807) (hf:f.length≤10000000) (hs : ∀ x∈f,x.2.2.1.2.2.1.size≤9223372036854775807) (hkl : ∀ x∈f,x.2.2.2.2.2.1.length≤10000000)
include hl hvs hf hs hkl
theorem N8 (h:kW l=true):l.length≤1000:=by
 unfold kW at h
 simp only[ah_,ai_] at h
 omega
theorem XX (h1:fg f=true) (h2:kW l=true):e8 f ((f.length:Int) - 1) l=some ((bV f.length f l ((f.length:Int) - 1),()),())∧gh f ((f.length:Int) - 1) l=some ((bV f.length f l ((f.length:Int) - 1),()),())∧aA (bV f.length f l ((f.length:Int) - 1))=true:=by
 have hb:cq (f.length:Int) 1 60=true:=by
  unfold fg at h1
  simp only[ah_] at h1
  exact h1.1
 have:=bC.1 hb
 exact Rr (N8 hl hvs hf hs hkl h2) hf (kV h1) (mz h2) f.length _ (by omega) (by omega) (by omega)
theorem Rs (h1:fg f=true) (h2:kW l=true):gh f ((f.length:Int) - 1) l=some ((bV f.length f l ((f.length:Int) - 1),()),())∧aA (bV f.length f l ((f.length:Int) - 1))=true:=by
 have hb:cq (f.length:Int) 1 60=true:=by
  unfold fg at h1
  simp only[ah_] at h1
  exact h1.1
 have:=bC.1 hb
 exact N7 (N8 hl hvs hf hs hkl h2) hf (kV h1) (mz h2) f.length _ (by omega) (by omega) (by omega)
theorem N9:tE f l=some ((LZ f l,()),()):=by
 rw[XM,lr hf hs hkl,ab_]
 unfold LZ
 cases h1:fg f with
 | false=>simp[dA]
 | true =>
  rw[NW hl hvs,ab_]
  cases h2:kW l with
  | false=>simp[dA]
  | true =>
   obtain⟨e1,e2,e3⟩:=XX hl hvs hf hs hkl h1 h2
   rw[fx (by omega) (by omega),e1]
   unfold fN
   have hb:bnd 0=vN 0:=by decide
   by_cases h0:(bV f.length f l ((f.length:Int) - 1)).1=0 <;> simp[h0,kF,hb]
theorem Oa (h1:fg f=true) (h2:kW l=true):tD f l=some ((fN f l,()),()):=by
 obtain⟨e2,e3⟩:=Rs hl hvs hf hs hkl h1 h2
 rw[XG,fx (by omega) (by omega),e2]
 unfold fN
 by_cases h0:(bV f.length f l ((f.length:Int) - 1)).1=0 <;> simp[h0,ik]
end
def il (c:Nat):ap:=if c≤26 then [UInt8.ofNat (64+c)] else [65,UInt8.ofNat (38+c)]
theorem VP : ∀ c:Fin 53,1≤c.val→c.val≤26→strOfNums ([(IntKind.u8.wrap (ha_ hb_ ((ha_ hb_ (65+(c.val:Int))) - 1)))]:List Int)=ba (il c.val):=by decide +kernel
theorem VQ : ∀ c:Fin 53,1≤c.val → ¬c.val≤26→strOfNums ([(IntKind.u8.wrap (ha_ hb_ ((ha_ hb_ (65+(ha_ hb_ (dn_ (ha_ hb_ ((c.val:Int) - 1)) 26)))) - 1))),(IntKind.u8.wrap (ha_ hb_ (65+(fn_ (ha_ hb_ ((c.val:Int) - 1)) 26))))]:List Int)=ba (il c.val):=by decide +kernel
theorem VR : ∀ c:Fin 53,1≤c.val→strOfNums ([(IntKind.u8.wrap (ha_ hb_ (65+(fn_ (ha_ hb_ ((c.val:Int) - 1)) 26))))]:List Int)=ba (if c.val≤26 then il c.val else(il c.val).drop 1):=by decide +kernel
theorem VS : ∀ c:Fin 53,1≤c.val→IntKind.i64.wrap (dn_ (ha_ hb_ ((c.val:Int) - 1)) 26)=if c.val≤26 then 0 else 1:=by decide +kernel
theorem Ew {c:Nat} (h1:1≤c) (h2:c≤52):rf (c:Int)=some ((ba (il c),()),()):=by
 rw[P5,gj]
 simp only[ab_]
 rw[show cq (c:Int) 1 52=true from bC.2 ⟨by omega,by omega⟩]
 simp only[bc_,aj_,aw_]
 by_cases h:c≤26
 ·rw[aI (by omega),VP ⟨c,by omega⟩ h1 h]
 ·rw[aD (by omega),VQ ⟨c,by omega⟩ h1 h]
theorem vu (c:Nat):1≤(il c).length∧(il c).length≤2:=by
 unfold il
 split <;> simp
theorem Ex {c:Nat} (h1:1≤c) (h2:c≤52):uN (c:Int)=some ((ba (il c),()),()):=by
 have k1:=VR ⟨c,by omega⟩ h1
 have k2:=VS ⟨c,by omega⟩ h1
 have kl:=vu c
 rw[PS,jR]
 simp only[ab_]
 rw[show cq (c:Int) 1 52=true from bC.2 ⟨by omega,by omega⟩]
 simp only[bc_,aj_,aw_]
 simp only at k1 k2
 rw[na,aI (by omega),k1,k2]
 by_cases h:c≤26
 ·rw[af_ h,af_ h,bN (by simp only[bi_]; omega),na,aD (by decide),bx_]
 ·rw[ad_ h,ad_ h,bN (by simp only[bi_,dk_]; omega),na,aI (by decide),bx_]
  have k3':strOfNums ([(IntKind.u8.wrap (ha_ hb_ (65+(fn_ (ha_ hb_ ((1:Int) - 1)) 26))))]:List Int)=ba [65]:=by decide +kernel
  have k4':IntKind.i64.wrap (dn_ (ha_ hb_ ((1:Int) - 1)) 26)=0:=by decide +kernel
  rw[k3',k4',bN (by simp only[ak_,bi_,dk_]; omega),na,aD (by decide)]
  congr 3
  unfold il
  rw[ad_ h]
  rfl
theorem Fz {P:aa_→Int→Option ((Int×Unit)×Unit)} {C:Int→Option ((aa_×Unit)×Unit)}
  (hP : ∀ x n,P x n=if decide (n≤52)=true then(C n).bind fun z1=>(if(ag_ z1.1.1 == ag_ x)=true then some ((n,()),()) else P x (ha_ hb_ (n+1))) else some ((0,()),()))
  (hC : ∀ c:Nat,1≤c→c≤52→C (c:Int)=some ((ba (il c),()),())) (w:ap) : ∀ k n:Nat,n+k=53→1≤n→P (ba w) (n:Int)=some ((((((List.range' n k).find? fun m=>decide (il m=w)).getD 0:Nat):Int),()),())
 | 0,n,h,_=>by
  rw[hP,aD (by omega)]
  rfl
 | k+1,n,h,h1=>by
  rw[hP,aI (by omega),hC n h1 (by omega)]
  simp only[ab_,dG,List.range'_succ,List.find?_cons]
  by_cases he:il n=w
  ·simp[he]
  ·rw[ad_ (by simpa using he),wr (by omega) (by omega)]
   simp only[he,decide_false]
   exact Fz hP hC w k (n+1) (by omega) (by omega)
def kX (w:ap):Nat:=((List.range' 1 52).find? fun m=>decide (il m=w)).getD 0
theorem Qm (w:ap):E9 (ba w)=some ((((kX w:Nat):Int),()),()):=by
 rw[P6]
 exact Fz (fun x n=>IP) (fun c h1 h2=>Ew h1 h2) w 52 1 rfl (aq_ _)
theorem Qn (w:ap):re (ba w)=some ((((kX w:Nat):Int),()),()):=by
 rw[PX]
 exact Fz (fun x n=>IM) (fun c h1 h2=>Ex h1 h2) w 52 1 rfl (aq_ _)
theorem Hx : ∀ m:Fin 53,1≤m.val→kX (il m.val)=m.val:=by decide +kernel
theorem VT {w:ap} (h:1≤kX w):kX w≤52∧il (kX w)=w:=by
 unfold kX at h ⊢
 cases hf:(List.range' 1 52).find? fun m=>decide (il m=w) with
 | none=>rw[hf] at h; simp at h
 | some m =>
  have h1:=List.find?_some hf
  have h2:=List.mem_of_find?_eq_some hf
  rw[List.mem_range'_1] at h2
  simp only[Option.getD_some]
  exact⟨by omega,by simpa using h1⟩
def rn (b:Bool):ap:=if b=true then [36] else []
def za (c r:Nat) (fc fr:Bool):ap:=rn fc++(il c++(rn fr++az_ r))
def mA (p:cl):ap:=za p.1.1.toNat p.1.2.1.toNat p.2.1 p.2.2.1
theorem sK {r:ah}:bT r=true↔(1≤r.1∧r.1≤52)∧1≤r.2.1∧r.2.1≤99:=by
 unfold bT
 rw[ah_,bC,bC]
theorem tT {r:Nat} (h:r≤99):(az_ r).length≤2:=Hh 1 r (by omega)
theorem ow (p:cl):m5 p=some ((if bT p.1=true then ba (mA p) else ba [],()),()):=by
 rw[LA,sF]
 simp only[ab_]
 cases hr:bT p.1 with
 | false=>rfl
 | true =>
  simp only[bc_,aj_,aw_,ba_]
  obtain⟨⟨c,r,u⟩,fc,fr,u'⟩:=p
  obtain⟨⟨h1,h2⟩,h3,h4⟩:=sK.1 hr
  simp only at h1 h2 h3 h4 ⊢
  obtain⟨c,rfl⟩ : ∃ n:Nat,c=n:=⟨c.toNat,by omega⟩
  obtain⟨r,rfl⟩ : ∃ n:Nat,r=n:=⟨r.toNat,by omega⟩
  have kc:=vu c
  have kr:=tT (r:=r) (by omega)
  have e1:rf (c:Int)=some ((ba (il c),()),()):=Ew (by omega) (by omega)
  have e2:kP (r:Int)=some ((ba (az_ r),()),()):=by rw[xq (by omega) (by omega),oS]
  unfold mA za
  simp only[bu_]
  cases fc <;> cases fr <;> simp only[e1,e2,ab_,ba_,aw_,aj_,rn]
  all_goals
   repeat rw[bN (by first | omega | (simp only[ae_,ak_,bi_]; omega))]
   simp
theorem ox (p:cl):cQ p=some ((if bT p.1=true then ba (mA p) else ba [],()),()):=by
 rw[Lg,kE]
 simp only[ab_]
 cases hr:bT p.1 with
 | false=>rfl
 | true =>
  simp only[bc_,aj_,aw_,ba_]
  obtain⟨⟨c,r,u⟩,fc,fr,u'⟩:=p
  obtain⟨⟨h1,h2⟩,h3,h4⟩:=sK.1 hr
  simp only at h1 h2 h3 h4 ⊢
  obtain⟨c,rfl⟩ : ∃ n:Nat,c=n:=⟨c.toNat,by omega⟩
  obtain⟨r,rfl⟩ : ∃ n:Nat,r=n:=⟨r.toNat,by omega⟩
  have kc:=vu c
  have kr:=tT (r:=r) (by omega)
  have e1:uN (c:Int)=some ((ba (il c),()),()):=Ex (by omega) (by omega)
  have e2:cf (r:Int)=some ((ba (az_ r),()),()):=by rw[CI (by omega) (by omega),oS]
  unfold mA za
  simp only[bu_]
  cases fc <;> cases fr <;> simp only[e1,e2,ab_,ba_,aw_,aj_,rn]
  all_goals
   repeat rw[bN (by first | omega | (simp only[ae_,ak_,bi_]; omega))]
   simp
theorem Ey {w:ap} (hw:w.length≤18) : ∀(ys pre:ap),w=pre++ys→pre.all dw=true→pq (ba w) (bL 0 pre:Nat) (pre.length:Int)=some ((if ys.all dw=true then((bL 0 w:Nat):Int) else 0,ys.all dw,()),())
 | [],pre,h,hp=>by
  rw[bx_] at h
  subst h
  rw[Cz,aD (by rw[aQ]; omega)]
  rfl
 | y :: ys,pre,h,hp=>by
  have hl:pre.length < w.length:=by rw[h]; simp
  rw[Cz,aI (by rw[aQ]; omega),lv h]
  by_cases h1:y.toNat < 48
  ·have hd:dw y=false:=by simp[dw]; omega
   rw[aI (by omega)]
   simp[hd]
  ·rw[aD (by omega),lv h]
   by_cases h2:57 < y.toNat
   ·have hd:dw y=false:=by simp[dw]; omega
    rw[aI (by omega)]
    simp[hd]
   ·have hd:dw y=true:=by simp[dw]; omega
    rw[aD (by omega),lv h]
    have hv:=DB pre 0 hp
    have hv2:10 ^ pre.length≤10 ^ 17:=fr_ (by decide) (by omega)
    have hv3:bL 0 pre < 100000000000000000:=by
     rw[Nat.zero_add,Nat.one_mul] at hv
     exact cl_ hv hv2
    clear hv hv2
    have e1:IntKind.u8.wrap ((y.toNat:Int) - 48)=((y.toNat - 48:Nat):Int):=by rw[wr8 (by omega) (by omega)]; omega
    have w1:IntKind.i64.wrap (((bL 0 pre:Nat):Int)*10)=((bL 0 pre:Nat):Int)*10:=wr (by omega) (by omega)
    have w2:IntKind.i64.wrap ((y.toNat - 48:Nat):Int)=((y.toNat - 48:Nat):Int):=wr (by omega) (by omega)
    rw[e1,w1,w2,wr (n:=((bL 0 pre:Nat):Int)*10+((y.toNat - 48:Nat):Int)) (by omega) (by omega),wr (n:=(pre.length:Int)+1) (by omega) (by omega)]
    have e2:((bL 0 pre:Nat):Int)*10+((y.toNat - 48:Nat):Int)=((bL 0 (pre++[y]):Nat):Int):=by rw[CP]; omega
    have e3:(pre.length:Int)+1=((pre++[y]).length:Int):=by simp
    rw[e2,e3,Ey hw ys (pre++[y]) (by rw[h]; simp) (by simp[hp,hd])]
    simp[hd]
def cR (w:ap) (m:Nat):Bool:=kp w && decide (w.length≤m)
theorem CY (w:ap) {m:Nat} (hm:m≤18):dc (ba w) (m:Int)=some ((if cR w m=true then((bL 0 w:Nat):Int) else 0,cR w m,()),()):=by
 rw[Vk,aQ]
 cases w with
 | nil =>
  rw[aI (by simp)]
  rfl
 | cons y ys =>
  have hlen:(y :: ys:ap).length=ys.length+1:=rfl
  rw[aD (by omega)]
  by_cases h:(y :: ys:ap).length≤m
  ·have hle:decide ((y :: ys:ap).length≤m)=true:=bd_ h
   rw[aD (by omega),qv]
   have hl:=Ey (w:=y :: ys) (by omega) (y :: ys) [] rfl rfl
   have hl:pq (ba (y :: ys)) 0 0=_:=hl
   have h0n:decide (1≤(y :: ys:ap).length)=true:=bd_ (by omega)
   by_cases h0:y=48
   ·subst h0
    rw[af_ (by rfl)]
    by_cases h1:ys.length=0
    ·rw[aD (by omega),hl]
     have h1':decide ((48 :: ys:ap).length=1)=true:=bd_ (by omega)
     have e:cR (48 :: ys) m=(48 :: ys:ap).all dw:=by
      unfold cR kp
      rw[hle,h0n,h1']
      simp
     rw[e]
    ·rw[aI (by omega)]
     have h1':decide ((48 :: ys:ap).length=1)=false:=be_ (by omega)
     have e:cR (48 :: ys) m=false:=by
      unfold cR kp
      rw[h1']
      simp
     rw[e]
     rfl
   ·have h0' : ¬((y.toNat:Int) == 48)=true:=by
     simp only[bt_]
     intro e
     apply h0
     apply UInt8.toNat_inj.1
     show y.toNat=48
     omega
    rw[ad_ h0',hl]
    have e:cR (y :: ys) m=(y :: ys:ap).all dw:=by
     have h2:decide ((y :: ys:ap).head? = some 48)=false:=be_ (by simpa using h0)
     unfold cR kp
     rw[hle,h0n,h2]
     simp
    rw[e]
  ·rw[aI (by omega)]
   have e:cR (y :: ys) m=false:=by
    unfold cR
    rw[be_ h]
    simp
   rw[e]
   rfl
theorem FA {w:ap} {m:Nat} (h:cR w m=true):az_ (bL 0 w)=w∧w.length≤m:=by
 unfold cR at h
 rw[ah_,ai_] at h
 exact⟨(Ro w h.1).1,h.2⟩
theorem CZ {u m:Nat} (h:(az_ u).length≤m):cR (az_ u) m=true:=by
 unfold cR
 rw[vn]
 simpa using h
theorem xv {w:ap} (hw:w.length≤281474976710656):iM (ba w) 10 64=some (((ct w).1,(ct w).2,()),()):=by
 rw[Bq]
 show(if(ba w).size≤281474976710656∧(10:Int)=10∧(64:Int)=64 then some (((ct (lb (ba w))).1,(ct (lb (ba w))).2,()),()) else none)=_
 rw[af_ ⟨by rw[aQ]; exact hw,rfl,rfl⟩,dy]
theorem Zz : ∀ r:Fin 10,(ct [UInt8.ofNat (48+r.val)]).1=(r.val:Int):=by decide +kernel
theorem ZA : ∀ r:Fin 100,(ct [UInt8.ofNat (48+r.val / 10),UInt8.ofNat (48+r.val % 10)]).1=(r.val:Int):=by decide +kernel
theorem VU {r:Nat} (h:r < 100):(ct (az_ r)).1=(r:Int):=by
 by_cases h1:r < 10
 ·rw[Lib.decDigits_one h1]
  exact Zz ⟨r,h1⟩
 ·rw[Lib.decDigits_two h1 h]
  exact ZA ⟨r,h⟩
theorem aaN:(fun c=>([65,66,67,68,69,70,71,72,73,74,75,76,77,78,79,80,81,82,83,84,85,86,87,88,89,90]:ap).contains c)=fH:=funext fun c=>CO (p:=fun c=>([65,66,67,68,69,70,71,72,73,74,75,76,77,78,79,80,81,82,83,84,85,86,87,88,89,90]:ap).contains c=fH c) (by decide +kernel) c
def cr (w:ap):Bool×ap:=(([36]:ap).isPrefixOf w,if([36]:ap).isPrefixOf w=true then w.drop 1 else w)
theorem KB (w:ap):rn (cr w).1++(cr w).2=w:=by
 unfold cr rn
 cases w with
 | nil=>rfl
 | cons c l =>
  by_cases h:c=36
  ·subst h
   simp
  ·have:([36]:ap).isPrefixOf (c :: l)=false:=by rw[gQ]; simp[h]
   simp[this]
theorem Ob {b:Bool} {w:ap} (h:w.head? ≠ some 36):cr (rn b++w)=(b,w):=by
 unfold cr rn
 cases b with
 | true=>simp
 | false =>
  cases w with
  | nil=>rfl
  | cons c l =>
   have h':c≠36:=fun e=>h (by rw[e]; rfl)
   have:([36]:ap).isPrefixOf (c :: l)=false:=by rw[gQ]; simp[h']
   simp[this]
theorem Oc (w:ap):(cr w).2.length≤w.length:=by
 unfold cr
 split <;> simp
def qx (w:ap):cl:=((((kX ((cr w).2.takeWhile fH):Nat):Int),(ct (cr ((cr w).2.dropWhile fH)).2).1,()),(cr w).1,(cr ((cr w).2.dropWhile fH)).1,())
theorem KC (p:UInt8→Bool) (l:ap):(l.dropWhile p).length≤l.length:=(CN p l).2.2
theorem aaO {w:ap} (hw:w.length≤9223372036854775807):cx (ba w) (⟨#[36]⟩:aa_)=some ((ba (cr w).2,(cr w).1,()),()):=sJ w [36] hw
theorem Od {w:ap} (hw:w.length≤281474976710656) :
  ij (ba w)=some ((if bT (qx w).1=true∧mA (qx w)=w then qx w else p0,decide (bT (qx w).1=true∧mA (qx w)=w),()),()):=by
 have l1:=Oc w
 have l2:=KC fH (cr w).2
 have l3:=Oc ((cr w).2.dropWhile fH)
 obtain⟨d1,d2,d3⟩:=CN fH (cr w).2
 rw[LB,aaO (by omega)]
 simp only[ab_]
 rw[xt _ _ (by decide +kernel),aaN]
 simp only[ab_,aQ]
 rw[wr (by omega) (by omega),show((cr w).2.length:Int) - (((cr w).2.dropWhile fH).length:Int)=(((cr w).2.length - ((cr w).2.dropWhile fH).length:Nat):Int) by omega,Hr (by omega),d1,Qm]
 simp only[ab_]
 rw[fW (by omega),d2,aaO (by omega)]
 simp only[ab_]
 rw[xv (by omega)]
 simp only[ab_,sF,ow]
 have e:qx w=((((kX ((cr w).2.takeWhile fH):Nat):Int),(ct (cr ((cr w).2.dropWhile fH)).2).1,()),(cr w).1,(cr ((cr w).2.dropWhile fH)).1,()):=rfl
 rw[←e]
 have e1:(((kX ((cr w).2.takeWhile fH):Nat):Int),(ct (cr ((cr w).2.dropWhile fH)).2).1,())=(qx w).1:=rfl
 rw[e1]
 cases hr:bT (qx w).1 with
 | false=>simp
 | true =>
  simp only[bc_,aj_,aw_,ba_,dG,true_and]
  by_cases hp:mA (qx w)=w
  ·simp[hp]
  ·simp[hp]
theorem Rt : ∀ c:Fin 53,1≤c.val→(il c.val).all fH=true:=by decide +kernel
theorem abC {y:UInt8} (h:fH y=true):y≠36:=by
 rintro rfl
 exact absurd h (by decide)
theorem Y0 {y:UInt8} (h:dw y=true):y≠36∧fH y=false:=by
 refine⟨?_,?_⟩
 ·rintro rfl
  exact absurd h (by decide)
 ·simp only[dw,fH,ah_,ai_,Bool.and_eq_false_iff,decide_eq_false_iff_not] at h ⊢
  omega
theorem Hy (u:Nat) : ∃ y l,az_ u=y :: l∧dw y=true:=by
 have h:=vn u
 unfold kp at h
 simp only[ah_,ai_] at h
 cases hd:az_ u with
 | nil=>rw[hd] at h; simp at h
 | cons y l =>
  rw[hd] at h
  refine⟨y,l,rfl,?_⟩
  have:=h.1.1
  simp only[do_,ah_] at this
  exact this.1
theorem ZB {c:Nat} (h1:1≤c) (h2:c≤52) (x:ap):(il c++x).head? ≠ some 36:=by
 have h:=Rt ⟨c,by omega⟩ h1
 have hl:=vu c
 simp only at h
 cases hc:il c with
 | nil=>rw[hc] at hl; simp at hl
 | cons y l =>
  rw[hc] at h
  simp only[do_,ah_] at h
  intro e
  simp only[List.cons_append,db_,bg_] at e
  exact abC h.1 e
theorem Oe {c r:Nat} (h1:1≤c) (h2:c≤52) (fc fr:Bool):(cr (za c r fc fr)).1=fc∧(cr (za c r fc fr)).2.takeWhile fH=il c∧(cr ((cr (za c r fc fr)).2.dropWhile fH)).1=fr∧(cr ((cr (za c r fc fr)).2.dropWhile fH)).2=az_ r:=by
 unfold za
 rw[Ob (ZB h1 h2 _)]
 have hu:=List.all_eq_true.1 (Rt ⟨c,by omega⟩ h1)
 simp only at hu ⊢
 obtain⟨y,l,hy,hd⟩:=Hy r
 have hn : ∃ z m,rn fr++az_ r=z :: m∧fH z=false:=by
  cases fr with
  | true=>exact⟨36,_,rfl,by decide⟩
  | false=>exact⟨y,l,hy,(Y0 hd).2⟩
 obtain⟨z,m,hz,hzu⟩:=hn
 have ht:(rn fr++az_ r).takeWhile fH=[]:=by rw[hz]; simp[hzu]
 have hdr:(rn fr++az_ r).dropWhile fH=rn fr++az_ r:=by rw[hz]; simp[hzu]
 rw[List.takeWhile_append_of_pos hu,List.dropWhile_append_of_pos hu,ht,hdr,bx_,Ob (by rw[hy]; simp only[db_,ne_eq,bg_]; exact(Y0 hd).1)]
 simp
theorem C0 {p:cl} (h:bT p.1=true) : ∃(c r:Nat) (fc fr:Bool),p=(((c:Int),(r:Int),()),fc,fr,())∧1≤c∧c≤52∧1≤r∧r≤99:=by
 obtain⟨⟨c,r,u⟩,fc,fr,u'⟩:=p
 obtain⟨⟨h1,h2⟩,h3,h4⟩:=sK.1 h
 simp only at h1 h2 h3 h4
 refine⟨c.toNat,r.toNat,fc,fr,?_,by omega,by omega,by omega,by omega⟩
 rw[dr_ (by omega),dr_ (by omega)]
theorem ZC {p:cl} (h:bT p.1=true):qx (mA p)=p:=by
 obtain⟨c,r,fc,fr,rfl,h1,h2,h3,h4⟩:=C0 h
 obtain⟨e1,e2,e3,e4⟩:=Oe (r:=r) h1 h2 fc fr
 show qx (za c r fc fr)=_
 unfold qx
 rw[e1,e2,e3,e4,Hx ⟨c,by omega⟩ h1,VU (by omega)]
def qy (fc:Bool) (ls w2:ap):cl×Bool :=
 if cR (cr w2).2 2=true∧bT (((kX ls:Nat):Int),((bL 0 (cr w2).2:Nat):Int),())=true then(((((kX ls:Nat):Int),((bL 0 (cr w2).2:Nat):Int),()),fc,(cr w2).1,()),true) else(p0,false)
def cS (w:ap):cl×Bool:=qy (cr w).1 ((cr w).2.takeWhile fH) ((cr w).2.dropWhile fH)
theorem TR {fc:Bool} {ls w2:ap} {f1:Bool} {w3:ap} (h:cr w2=(f1,w3)) :
  ((dc (ba w3) 2).bind fun z2=>(if(!z2.1.2.1)=true then(some ((((0,0,()),false,false,()),false,()),(()))) else((dl (((kX ls:Nat):Int),z2.1.1,())).bind fun z3=>(if(!z3.1.1)=true then(some ((((0,0,()),false,false,()),false,()),(()))) else(some (((((((kX ls:Nat):Int),z2.1.1,()),fc,f1,()):cl),true,()),(())))))))=some (((qy fc ls w2).1,(qy fc ls w2).2,()),()):=by
 have e:=CY w3 (m:=2) (by decide)
 have e:dc (ba w3) 2=_:=e
 rw[e]
 simp only[ab_,kE]
 unfold qy
 rw[h]
 cases hr:cR w3 2 with
 | false=>simp
 | true =>
  simp only[bc_,aj_,aw_,ba_,true_and]
  cases ho:bT (((kX ls:Nat):Int),((bL 0 w3:Nat):Int),()) with
  | false=>simp
  | true=>simp
theorem plK {fc:Bool} {w1 pre ys:ap} (h:w1=pre++ys) (hl:w1.length≤9223372036854775807) :
  (DY (ba w1) (pre.length:Int) fun y7=>((re y7).bind fun z8=>(ji (ba w1) (pre.length:Int) fun y8=>(if(decide ((ByteArray.size y8:Int) > 0))=true then(eE y8 0 fun y9=>(if(y9 == 36)=true then(ji y8 1 fun y10=>((dc y10 2).bind fun z9=>(if(!z9.1.2.1)=true then(some ((((0,0,()),false,false,()),false,()),(()))) else((dl (z8.1.1,z9.1.1,())).bind fun z10=>(if(!z10.1.1)=true then(some ((((0,0,()),false,false,()),false,()),(()))) else(some ((((z8.1.1,z9.1.1,()),fc,true,()),true,()),(())))))))) else((dc y8 2).bind fun z11=>(if(!z11.1.2.1)=true then(some ((((0,0,()),false,false,()),false,()),(()))) else((dl (z8.1.1,z11.1.1,())).bind fun z12=>(if(!z12.1.1)=true then(some ((((0,0,()),false,false,()),false,()),(()))) else(some ((((z8.1.1,z11.1.1,()),fc,false,()),true,()),(()))))))))) else((dc y8 2).bind fun z13=>(if(!z13.1.2.1)=true then(some ((((0,0,()),false,false,()),false,()),(()))) else((dl (z8.1.1,z13.1.1,())).bind fun z14=>(if(!z14.1.1)=true then(some ((((0,0,()),false,false,()),false,()),(()))) else(some ((((z8.1.1,z13.1.1,()),fc,false,()),true,()),(())))))))))))
   = (some (((qy fc pre ys).1,(qy fc pre ys).2,()),()):Option ((cl×Bool×Unit)×Unit)):=by
 subst h
 have hle:pre.length≤(pre++ys).length:=by simp
 rw[Hr hle,List.take_left' rfl,Qn]
 simp only[ab_]
 rw[fW hle,List.drop_left' rfl,aQ]
 cases ys with
 | nil =>
  rw[aD (by simp)]
  exact TR rfl
 | cons y l =>
  rw[aI (by simp),qv]
  by_cases hy:y=36
  ·subst hy
   rw[af_ (by rfl),show(1:Int)=((1:Nat):Int) from rfl,fW (by simp)]
   exact TR (by unfold cr; rw[gQ]; simp)
  ·have h0' : ¬((y.toNat:Int) == 36)=true:=by
    simp only[bt_]
    intro e
    apply hy
    apply UInt8.toNat_inj.1
    show y.toNat=36
    omega
   rw[ad_ h0']
   exact TR (by unfold cr; rw[gQ]; simp[hy])
theorem lV {fc:Bool} {w1:ap} (hl:w1.length≤9223372036854775806) : ∀(ys pre:ap),w1=pre++ys→jq (ba w1) (pre.length:Int) 0 0 false false 0 0 fc false=some (((qy fc (pre++ys.takeWhile fH) (ys.dropWhile fH)).1,(qy fc (pre++ys.takeWhile fH) (ys.dropWhile fH)).2,()),())
 | [],pre,h=>by
  have hlen:w1.length=pre.length:=by rw[h]; simp
  rw[vb,aD (by rw[aQ]; omega)]
  simpa using plK (fc:=fc) h (by omega)
 | y :: ys,pre,h=>by
  have hlen:pre.length < w1.length:=by rw[h]; simp
  rw[vb,aI (by rw[aQ]; omega),lv h]
  cases hu:fH y with
  | true =>
   have hu':65≤y.toNat∧y.toNat≤90:=by simpa[fH] using hu
   rw[aI (by omega),lv h,aI (by omega),wr (by omega) (by omega),show(pre.length:Int)+1=((pre++[y]).length:Int) by simp,lV hl ys (pre++[y]) (by rw[h]; simp)]
   simp[hu]
  | false =>
   have hk:=plK (fc:=fc) h (by omega)
   rw[List.takeWhile_cons_of_neg (by simp[hu]),List.dropWhile_cons_of_neg (by simp[hu]),bx_]
   by_cases h1:65≤y.toNat
   ·have h2 : ¬y.toNat≤90:=by
     intro h2
     simp[fH,h1,h2] at hu
    rw[aI (by omega),lv h,aD (by omega)]
    exact hk
   ·rw[aD (by omega)]
    exact hk
theorem tc {w:ap} (hw:w.length≤281474976710656):mX (ba w)=some (((cS w).1,(cS w).2,()),()):=by
 rw[Lo,aQ]
 cases w with
 | nil =>
  rw[aD (by simp)]
  exact lV (fc:=false) (w1:=[]) (by simp) [] [] rfl
 | cons y l =>
  rw[ak_] at hw
  rw[aI (by simp),qv]
  by_cases hy:y=36
  ·subst hy
   rw[af_ (by rfl),show(1:Int)=((1:Nat):Int) from rfl,fW (by simp)]
   have:=lV (fc:=true) (w1:=l) (by omega) l [] rfl
   have e:cr (36 :: l)=(true,l):=by unfold cr; rw[gQ]; simp
   unfold cS
   rw[e]
   exact this
  ·have h0' : ¬((y.toNat:Int) == 36)=true:=by
    simp only[bt_]
    intro e
    apply hy
    apply UInt8.toNat_inj.1
    show y.toNat=36
    omega
   rw[ad_ h0']
   have:=lV (fc:=false) (w1:=y :: l) (by rw[ak_]; omega) (y :: l) [] rfl
   have e:cr (y :: l)=(false,y :: l):=by unfold cr; rw[gQ]; simp[hy]
   unfold cS
   rw[e]
   exact this
theorem ZD {w:ap} (h:(cS w).2=true):bT (cS w).1.1=true∧mA (cS w).1=w:=by
 unfold cS qy at h ⊢
 split at h
 ·rename_i hc
  rw[af_ hc]
  refine⟨hc.2,?_⟩
  obtain⟨⟨k1,k2⟩,k3,k4⟩:=sK.1 hc.2
  simp only at k1 k2 k3 k4
  obtain⟨c1,c2⟩:=VT (w:=(cr w).2.takeWhile fH) (by omega)
  obtain⟨r1,r2⟩:=FA hc.1
  unfold mA za
  simp only[bu_]
  rw[c2,r1,KB,List.takeWhile_append_dropWhile,KB]
 ·cases h
theorem VV {p:cl} (h:bT p.1=true):cS (mA p)=(p,true):=by
 obtain⟨c,r,fc,fr,rfl,h1,h2,h3,h4⟩:=C0 h
 obtain⟨e1,e2,e3,e4⟩:=Oe (r:=r) h1 h2 fc fr
 show cS (za c r fc fr)=_
 unfold cS qy
 rw[e1,e2,e3,e4,Hx ⟨c,by omega⟩ h1,rl,af_ ⟨CZ (tT h4),h⟩]
theorem ZE {w:ap} (h:(cS w).2=false):cS w=(p0,false):=by
 unfold cS qy at h ⊢
 split at h
 ·cases h
 ·rename_i hc
  rw[ad_ hc]
theorem oy {w:ap} (hw:w.length≤281474976710656):ij (ba w)=some (((cS w).1,(cS w).2,()),()):=by
 rw[Od hw]
 by_cases h:bT (qx w).1=true∧mA (qx w)=w
 ·have:=VV h.1
  rw[h.2] at this
  rw[af_ h,bd_ h,this]
 ·rw[ad_ h,be_ h]
  cases h2:(cS w).2 with
  | false=>rw[ZE h2]
  | true =>
   obtain⟨k1,k2⟩:=ZD h2
   refine absurd ?_ h
   have:=ZC k1
   rw[k2] at this
   rw[this]
   exact⟨k1,k2⟩
def jF:ap:=[84,82,85,69]
def kq:ap:=[70,65,76,83,69]
def ff (w:ap):Int:=if df 5=ba w then 5 else if df 4=ba w then 4 else if df 3=ba w then 3 else if df 2=ba w then 2 else if df 1=ba w then 1 else 0
theorem ZF {w:ap} (h:ff w≠0):df (ff w)=ba w∧1≤ff w∧ff w≤5:=by
 unfold ff at h ⊢
 split
 ·exact⟨‹_›,by decide,by decide⟩
 ·split
  ·exact⟨‹_›,by decide,by decide⟩
  ·split
   ·exact⟨‹_›,by decide,by decide⟩
   ·split
    ·exact⟨‹_›,by decide,by decide⟩
    ·split
     ·exact⟨‹_›,by decide,by decide⟩
     ·rename_i h1 h2 h3 h4 h5
      simp[h1,h2,h3,h4,h5] at h
theorem KD : ∀ n:Fin 6,1≤n.val→ff (lb (df (n.val:Int)))=(n.val:Int):=by decide +kernel
def Bi (w:ap):ac :=
 if w=[] then v0 else
 if w.head? = some 39 then vT (ba (w.drop 1)) else
 if w=jF then vB true else
 if w=kq then vB false else
 if w.head? = some 35 then(4,ff w,eS,()) else
 if w.head? = some 45 then(if cR (w.drop 1) 16=true∧bL 0 (w.drop 1)≠0 then vN (-((bL 0 (w.drop 1):Nat):Int)) else(9,0,eS,())) else
 if cR w 16=true then vN ((bL 0 w:Nat):Int) else(9,0,eS,())
def bJ (w:ap):ac×Bool:=if aA (Bi w)=true then(Bi w,true) else(v0,false)
theorem Ru {v:ac} (h:v.2.2.1.size≤9223372036854775807) {a b:Int} {c:aa_}:aU a b c v.1 v.2.1 v.2.2.1=some ((if aA v=true then v else v0,aA v,()),()):=by
 rw[DR,show(v.1,v.2.1,v.2.2.1,())=v from rfl,fi h]
 simp only[ab_]
 cases aA v <;> rfl
theorem vv {w:ap} {n:Int} (h0:0≤n) (h1:n≤5) {a b e N:Int} {c f:aa_}:fa (ba w) n a b c e N f=fa (ba w) (n+1) a b c e (if df n=ba w then n else N) f:=by
 rw[tq,aI h1,tP h0 h1]
 simp only[ab_,so,ai_]
 rw[wr (by omega) (by omega)]
 split <;> rfl
theorem aaP {w:ap}:fa (ba w) 1 0 0 eS 4 0 eS=some ((if aA (4,ff w,eS,())=true then(4,ff w,eS,()) else v0,aA (4,ff w,eS,()),()),()):=by
 rw[vv (by decide) (by decide),vv (by decide) (by decide),vv (by decide) (by decide),vv (by decide) (by decide),vv (by decide) (by decide),tq,aD (by decide)]
 exact Ru (v:=(4,ff w,eS,())) (by show eS.size≤_; decide)
theorem XY {w:ap} (hw:w.length≤9223372036854775807) {y:UInt8} {l:ap} (h:w=y :: l) :
  (if((y.toNat:Int) == 45)=true then(ji (ba w) 1 fun y5=>((dc y5 16).bind fun z1=>(if(!z1.1.2.1)=true then(some (((0,0,(⟨#[]⟩:aa_),()),false,()),(()))) else(if((y.toNat:Int) == 45)=true then(if(z1.1.1 == 0)=true then(some (((0,0,(⟨#[]⟩:aa_),()),false,()),(()))) else(if((y.toNat:Int) == 45)=true then(aU 0 0 (⟨#[]⟩:aa_) 1 (ha_ hb_ (0 - z1.1.1)) (⟨#[]⟩:aa_)) else(aU 0 0 (⟨#[]⟩:aa_) 1 z1.1.1 (⟨#[]⟩:aa_)))) else(if((y.toNat:Int) == 45)=true then(aU 0 0 (⟨#[]⟩:aa_) 1 (ha_ hb_ (0 - z1.1.1)) (⟨#[]⟩:aa_)) else(aU 0 0 (⟨#[]⟩:aa_) 1 z1.1.1 (⟨#[]⟩:aa_)))))))
   else((dc (ba w) 16).bind fun z2=>(if(!z2.1.2.1)=true then(some (((0,0,(⟨#[]⟩:aa_),()),false,()),(()))) else(if((y.toNat:Int) == 45)=true then(if(z2.1.1 == 0)=true then(some (((0,0,(⟨#[]⟩:aa_),()),false,()),(()))) else(if((y.toNat:Int) == 45)=true then(aU 0 0 (⟨#[]⟩:aa_) 1 (ha_ hb_ (0 - z2.1.1)) (⟨#[]⟩:aa_)) else(aU 0 0 (⟨#[]⟩:aa_) 1 z2.1.1 (⟨#[]⟩:aa_)))) else(if((y.toNat:Int) == 45)=true then(aU 0 0 (⟨#[]⟩:aa_) 1 (ha_ hb_ (0 - z2.1.1)) (⟨#[]⟩:aa_)) else(aU 0 0 (⟨#[]⟩:aa_) 1 z2.1.1 (⟨#[]⟩:aa_)))))))
   = (let v:ac:=if w.head? = some 45 then(if cR (w.drop 1) 16=true∧bL 0 (w.drop 1)≠0 then vN (-((bL 0 (w.drop 1):Nat):Int)) else(9,0,eS,())) else if cR w 16=true then vN ((bL 0 w:Nat):Int) else(9,0,eS,())
    some ((if aA v=true then v else v0,aA v,()),())):=by
 have e9:aA (9,0,eS,())=false:=by decide
 have hint : ∀ x:ap,dc (ba x) 16=_:=fun x=>CY x (m:=16) (by decide)
 have hrange : ∀ x:ap,cR x 16=true→bL 0 x < 10 ^ 16:=by
  intro x hx
  unfold cR kp at hx
  simp only[ah_,ai_] at hx
  have:=DB x 0 hx.1.1.1
  exact cl_ (by simpa using this) (fr_ (by decide) hx.2)
 subst h
 by_cases hy:y=45
 ·subst hy
  have e:(((45:UInt8).toNat:Int) == 45)=true:=rfl
  simp only[e,ba_,db_,bz_,cu_]
  rw[show(1:Int)=((1:Nat):Int) from rfl,fW (by simp)]
  simp only[bz_,cu_,hint,ab_]
  cases hr:cR l 16 with
  | false=>simp[e9]; rfl
  | true =>
   have:=hrange l hr
   by_cases h0:bL 0 l=0
   ·simp[h0,e9]; rfl
   ·have h0' : ¬(((bL 0 l:Nat):Int) == 0)=true:=by simp only[bt_]; omega
    simp only[bc_,aj_,aw_,ba_,h0',ne_eq,h0,not_false_eq_true,and_self]
    rw[wr (by omega) (by omega),show(0:Int) - ((bL 0 l:Nat):Int) = -((bL 0 l:Nat):Int) by omega]
    exact Ru (v:=vN _) (by show eS.size≤_; decide)
 ·have e : ¬((y.toNat:Int) == 45)=true:=by
   simp only[bt_]
   intro e
   apply hy
   apply UInt8.toNat_inj.1
   show y.toNat=45
   omega
  have e2 : ¬(some y=some (45:UInt8)):=by simpa using hy
  simp only[e,aw_,db_,e2,hint,ab_]
  cases hr:cR (y :: l) 16 with
  | false=>simp[e9]; rfl
  | true =>
   have:=hrange _ hr
   simp only[bc_,aj_,aw_,ba_]
   exact Ru (v:=vN _) (by show eS.size≤_; decide)
theorem oz {w:ap} (hw:w.length≤9223372036854775807):kN (ba w)=some (((bJ w).1,(bJ w).2,()),()):=by
 have iC : ∀ v:ac,Bi w=v→some ((if aA v=true then v else v0,aA v,()),())=(some (((bJ w).1,(bJ w).2,()),()):Option ((ac×Bool×Unit)×Unit)):=by
  intro v hv
  unfold bJ
  rw[hv]
  cases aA v <;> rfl
 rw[Lq]
 have e0:(ag_ (ba w) == ag_ (⟨#[]⟩:aa_))=decide (w=[]):=dG (b:=[])
 have e1:(ag_ (ba w) == ag_ (⟨#[84,82,85,69]⟩:aa_))=decide (w=jF):=dG (b:=jF)
 have e2:(ag_ (ba w) == ag_ (⟨#[70,65,76,83,69]⟩:aa_))=decide (w=kq):=dG (b:=kq)
 rw[e0,e1,e2]
 cases w with
 | nil =>
  rw[aI rfl]
  exact iC v0 rfl
 | cons y l =>
  rw[aD (by simp)]
  simp only[qv]
  rw[Fw y 39 (n:=39) rfl,Fw y 35 (n:=35) rfl]
  have hv:=Bi.eq_def (y :: l)
  rw[ad_ (by simp)] at hv
  by_cases h39:y=39
  ·rw[aI h39,show(1:Int)=((1:Nat):Int) from rfl,fW (by simp)]
   rw[af_ (by rw[h39]; rfl)] at hv
   rw[ak_] at hw
   exact(Ru (v:=vT (ba ((y :: l).drop 1))) (by show(ba _).size≤_; rw[aQ]; simp; omega)).trans (iC _ hv)
  ·rw[aD h39]
   rw[ad_ (by simpa using h39)] at hv
   by_cases ht:(y :: l)=jF
   ·rw[af_ ht] at hv
    rw[aI ht,aI ht,aI ht]
    exact(Ru (v:=vB true) (by decide)).trans (iC _ hv)
   ·rw[ad_ ht] at hv
    rw[aD ht]
    by_cases hf:(y :: l)=kq
    ·rw[af_ hf] at hv
     rw[aI hf,aD ht]
     exact(Ru (v:=vB false) (by decide)).trans (iC _ hv)
    ·rw[ad_ hf] at hv
     rw[aD hf]
     by_cases h35:y=35
     ·rw[aI h35]
      rw[af_ (by rw[h35]; rfl)] at hv
      exact aaP.trans (iC _ hv)
     ·rw[aD h35]
      rw[ad_ (by simpa using h35)] at hv
      exact(XY hw rfl).trans (iC _ hv)
theorem wP {n:Int} (h:n < 0):cY n=ba (45 :: az_ (-n).toNat):=by
 rw[wM h,show -n=((-n).toNat:Int) by omega,oS,show(⟨#[45]⟩:aa_)=ba [45] from rfl,lu]
 congr 2
theorem C1 {u:Nat}:az_ u≠[]∧(az_ u).head? ≠ some 39∧(az_ u).head? ≠ some 35∧(az_ u).head? ≠ some 45∧az_ u≠jF∧az_ u≠kq:=by
 obtain⟨y,l,hy,hd⟩:=Hy u
 rw[hy]
 have hn : ∀ c:UInt8,dw c=false→y≠c:=by
  rintro c hc rfl
  rw[hd] at hc
  cases hc
 refine⟨by simp,?_,?_,?_,?_,?_⟩
 ·simpa using hn 39 (by decide)
 ·simpa using hn 35 (by decide)
 ·simpa using hn 45 (by decide)
 ·intro e
  exact hn 84 (by decide) (fx_ e).1
 ·intro e
  exact hn 70 (by decide) (fx_ e).1
theorem TS {u:Nat} (h:u≤1000000000000000):(az_ u).length≤16:=Hh 15 u (by omega)
theorem ZG {v:ac} (h:aA v=true) (k:v.1≠2):v.2.2.1=eS:=by
 unfold aA at h
 rw[ad_ k] at h
 simp only[ah_,ai_] at h
 exact h.1
theorem ZH {v:ac} (h:aA v=true) (k:v.1=0):v.2.1=0:=by
 unfold aA at h
 rw[ad_ (by omega),af_ k] at h
 simp only[ah_,ai_] at h
 exact h.2
theorem ZI {v:ac} (h:aA v=true) (k:v.1=2):v.2.1=0:=by
 unfold aA at h
 rw[af_ k] at h
 simp only[ah_,ai_] at h
 exact h.1
theorem xw {v:ac} (h:aA v=true):v=v0∨(∃ n,v=vN n ∧ -1000000000000000≤n∧n≤1000000000000000)∨(∃ s,v=vT s)∨(∃ b,v=vB b) ∨ ∃ n:Fin 6,v=vE (n.val:Int)∧1≤n.val:=by
 obtain⟨k,n,s,u⟩:=v
 have hS:=fun hk=>ZG h hk
 rcases tQ h with hk | hk | hk | hk | hk <;> simp only at hk <;> subst hk
 ·have h0:=ZH h rfl
  have h1:=hS (by show(_:Int)≠2; omega)
  simp only at h0 h1
  subst h0; subst h1
  exact .inl rfl
 ·have h0:=rj h rfl
  have h1:=hS (by show(_:Int)≠2; omega)
  simp only at h0 h1
  subst h1
  exact .inr (.inl ⟨n,rfl,h0.1,h0.2⟩)
 ·have h0:=ZI h rfl
  simp only at h0
  subst h0
  exact .inr (.inr (.inl ⟨s,rfl⟩))
 ·have h0:=yT h rfl
  have h1:=hS (by show(_:Int)≠2; omega)
  simp only at h0 h1
  subst h1
  refine .inr (.inr (.inr (.inl ⟨decide (n=1),?_⟩)))
  have:n=0∨n=1:=by omega
  rcases this with rfl | rfl <;> rfl
 ·have h0:=uc h rfl
  have h1:=hS (by show(_:Int)≠2; omega)
  simp only at h0 h1
  subst h1
  refine .inr (.inr (.inr (.inr ⟨⟨n.toNat,by omega⟩,?_,by simp; omega⟩)))
  show _=vE ((n.toNat:Nat):Int)
  rw[dr_ (by omega)]
  rfl
theorem XZ {v:ac} (h:aA v=true):Bi (lb (bO v))=v:=by
 rcases xw h with rfl | ⟨n,rfl,h0,h1⟩ | ⟨s,rfl⟩ | ⟨b,rfl⟩ | ⟨n,rfl,h0⟩
 ·rfl
 ·have e:bO (vN n)=cY n:=rfl
  rw[e]
  by_cases hn:n < 0
  ·rw[wP hn,dy]
   have hr:cR (az_ (-n).toNat) 16=true:=CZ (TS (by omega))
   unfold Bi
   simp only[db_,bz_,cu_,hr,rl]
   rw[ad_ (by simp),ad_ (by decide),ad_ (by unfold jF; simp),ad_ (by unfold kq; simp),ad_ (by decide),af_ trivial,af_ ⟨trivial,by omega⟩]
   congr 1
   omega
  ·rw[show n=(n.toNat:Int) by omega,oS,dy]
   have hr:cR (az_ n.toNat) 16=true:=CZ (TS (by omega))
   obtain⟨d1,d2,d3,d4,d5,d6⟩:=C1 (u:=n.toNat)
   unfold Bi
   rw[ad_ d1,ad_ d2,ad_ d5,ad_ d6,ad_ d3,ad_ d4,af_ hr,rl]
 ·have e:lb (bO (vT s))=39 :: lb s:=by
   show lb ((⟨#[39]⟩:aa_)++s)=_
   rw[←ec s,show(⟨#[39]⟩:aa_)=ba [39] from rfl,lu,dy]
   simp
  rw[e]
  unfold Bi
  rw[ad_ (by simp),af_ (by rfl)]
  simp only[bz_,cu_,ec]
 ·cases b <;> rfl
 ·have e:lb (bO (vE (n.val:Int)))=lb (df (n.val:Int)):=rfl
  rw[e]
  have h1 : ∀ n:Fin 6,1≤n.val→lb (df (n.val:Int))≠[]∧(lb (df (n.val:Int))).head? = some 35∧lb (df (n.val:Int))≠jF∧lb (df (n.val:Int))≠kq:=by decide +kernel
  obtain⟨a1,a2,a3,a4⟩:=h1 n h0
  unfold Bi
  rw[ad_ a1,ad_ (by rw[a2]; decide),ad_ a3,ad_ a4,af_ a2,KD n h0]
  rfl
theorem Ax {v:ac} (h:aA v=true):bJ (lb (bO v))=(v,true):=by
 unfold bJ
 rw[XZ h,af_ h]
theorem aaQ {w:ap} (h:aA (Bi w)=true):bO (Bi w)=ba w:=by
 unfold Bi at h ⊢
 split
 ·rename_i hw
  rw[hw]
  rfl
 ·rename_i hw
  rw[ad_ hw] at h
  split
  ·rename_i h39
   cases w with
   | nil=>cases h39
   | cons y l =>
    simp only[db_,bg_] at h39
    subst h39
    show(⟨#[39]⟩:aa_)++ba l=_
    rw[show(⟨#[39]⟩:aa_)=ba [39] from rfl,lu]
    rfl
  ·rename_i h39
   rw[ad_ h39] at h
   split
   ·rename_i ht
    rw[ht]
    rfl
   ·rename_i ht
    rw[ad_ ht] at h
    split
    ·rename_i hf
     rw[hf]
     rfl
    ·rename_i hf
     rw[ad_ hf] at h
     split
     ·rename_i h35
      rw[af_ h35] at h
      have:=uc h rfl
      simp only at this
      exact(ZF (by omega)).1
     ·rename_i h35
      rw[ad_ h35] at h
      have e9:aA (9,0,eS,())=false:=by decide
      split
      ·rename_i h45
       rw[af_ h45] at h
       split
       ·rename_i hc
        cases w with
        | nil=>cases h45
        | cons y l =>
         simp only[db_,bg_] at h45
         subst h45
         simp only[bz_,cu_] at hc ⊢
         show cY (-((bL 0 l:Nat):Int))=_
         rw[wP (by omega),show(- -((bL 0 l:Nat):Int)).toNat=bL 0 l by omega,(FA hc.1).1]
       ·rename_i hc
        rw[ad_ hc,e9] at h
        cases h
      ·rename_i h45
       rw[ad_ h45] at h
       split
       ·rename_i hc
        show cY ((bL 0 w:Nat):Int)=_
        rw[oS,(FA hc).1]
       ·rename_i hc
        rw[ad_ hc,e9] at h
        cases h
theorem oT {w:ap} (h:(bJ w).2=true):aA (bJ w).1=true∧bO (bJ w).1=ba w:=by
 unfold bJ at h ⊢
 split at h
 ·rename_i hc
  rw[af_ hc]
  exact⟨hc,aaQ hc⟩
 ·cases h
theorem Of {w:ap} (h:(bJ w).2=false):bJ w=(v0,false):=by
 unfold bJ at h ⊢
 split at h
 ·cases h
 ·rename_i hc
  rw[ad_ hc]
theorem Rv : ∀(l:ap) (a:Nat),a≤bL a l
 | [],a=>aq_ _
 | c :: l,a=>by
  have:=Rv l (a*10+(c.toNat - 48))
  show a≤bL (a*10+(c.toNat - 48)) l
  omega
theorem L0 : ∀(l:ap) (a:Nat),l.all dw=true→bL a l≤100000000000000000→fg_ 18446744073709551615 a l = .ok (bL a l)
 | [],a,_,_=>rfl
 | c :: l,a,h,hv=>by
  simp only[do_,ah_] at h
  have hd:48≤c.toNat∧c.toNat≤57:=by simpa[dw] using h.1
  have hg:=Rv l (a*10+(c.toNat - 48))
  have hv':bL (a*10+(c.toNat - 48)) l≤100000000000000000:=hv
  unfold fg_
  rw[af_ hd,ad_ (by omega),ad_ (by omega),L0 l _ h.2 hv']
  rfl
theorem IY {l:ap} (h:kp l=true):l.all dw=true:=by
 unfold kp at h
 simp only[ah_] at h
 exact h.1.1
theorem VW {u:Nat} (h:u≤1000000000000000):gl_ 64 (az_ u) = .ok u:=by
 unfold gl_
 rw[ad_ C1.1]
 have:=L0 (az_ u) 0 (IY (vn u)) (by rw[rl]; omega)
 rw[rl] at this
 exact this
theorem TT {u:Nat} (h:u≤1000000000000000):ct (az_ u)=((u:Int),true):=by
 obtain⟨y,l,hy,hd⟩:=Hy u
 have hd':48≤y.toNat∧y.toNat≤57:=by simpa[dw] using hd
 have hp:=VW h
 unfold ct
 have:dz_ 64 (az_ u) = .ok (u:Int):=by
  rw[hy] at hp ⊢
  unfold dz_
  simp only
  rw[ad_ (by omega),hp]
  simp only
  rw[ad_ (by omega),ad_ (by omega),ad_ (by omega)]
 rw[this]
theorem TU {u:Nat} (h:u≤1000000000000000):ct (45 :: az_ u)=(-(u:Int),true):=by
 have hp:=VW h
 unfold ct
 have:dz_ 64 (45 :: az_ u) = .ok (-(u:Int)):=by
  unfold dz_
  simp only
  have h45:(45:UInt8).toNat=45:=rfl
  rw[af_ (.inr h45),hp]
  simp only
  rw[ad_ (by omega),ad_ (by omega),af_ h45]
 rw[this]
def cV (w:ap):ac :=
 if([39]:ap).isPrefixOf w=true then vT (ba (w.drop 1)) else
 if w=kq then vB (decide (w=jF)) else
 if w=jF then vB (decide (w=jF)) else
 if([35]:ap).isPrefixOf w=true then(if ff w=0 then v0 else vE (ff w)) else
 if w≠[] then vN (ct w).1 else v0
theorem DE {v:ac} {w:ap} (h:v.2.2.1.size≤9223372036854775807):((dr v).bind fun z2=>(if(!z2.1.1)=true then(some (((0,0,(⟨#[]⟩:aa_),()),false,()),(()))) else((fp v).bind fun z3=>(if(!(ag_ z3.1.1 == ag_ (ba w)))=true then(some (((0,0,(⟨#[]⟩:aa_),()),false,()),(()))) else(some ((v,true,()),(())))))))=some ((if aA v=true∧bO v=ba w then v else v0,decide (aA v=true∧bO v=ba w),()),()):=by
 rw[fj h]
 simp only[ab_]
 cases ho:aA v with
 | false=>simp; rfl
 | true =>
  rw[s8 ho]
  simp only[ab_,bc_,aj_,aw_,so,true_and]
  by_cases hv:bO v=ba w
  ·simp[hv]
  ·simp[hv]; rfl
theorem aaR {w:ap} (hc : ∀ v:ac,aA v=true→bO v=ba w→cV w=v):(if aA (cV w)=true∧bO (cV w)=ba w then cV w else v0)=(bJ w).1∧decide (aA (cV w)=true∧bO (cV w)=ba w)=(bJ w).2:=by
 by_cases h:aA (cV w)=true∧bO (cV w)=ba w
 ·have:=Ax h.1
  rw[h.2,dy] at this
  rw[af_ h,bd_ h,this]
  exact⟨rfl,rfl⟩
 ·rw[ad_ h,be_ h]
  cases h2:(bJ w).2 with
  | false=>rw[Of h2]; exact⟨rfl,rfl⟩
  | true =>
   obtain⟨k1,k2⟩:=oT h2
   refine absurd ?_ h
   rw[hc _ k1 k2]
   exact⟨k1,k2⟩
theorem ZJ {v:ac} (h:aA v=true):cV (lb (bO v))=v:=by
 rcases xw h with rfl | ⟨n,rfl,h0,h1⟩ | ⟨s,rfl⟩ | ⟨b,rfl⟩ | ⟨n,rfl,h0⟩
 ·rfl
 ·have e:bO (vN n)=cY n:=rfl
  rw[e]
  by_cases hn:n < 0
  ·rw[wP hn,dy]
   unfold cV
   rw[ad_ (by simp),ad_ (by unfold kq; simp),ad_ (by unfold jF; simp),ad_ (by simp),af_ (by simp),TU (by omega)]
   congr 1
   simp only
   omega
  ·rw[show n=(n.toNat:Int) by omega,oS,dy]
   obtain⟨d1,d2,d3,d4,d5,d6⟩:=C1 (u:=n.toNat)
   have hp:=TT (u:=n.toNat) (by omega)
   obtain⟨y,l,hy,hd⟩:=Hy n.toNat
   rw[hy] at d1 d2 d3 d4 d5 d6 hp ⊢
   unfold cV
   rw[ad_ (by rw[gQ]; simpa using d2),ad_ d6,ad_ d5,ad_ (by rw[gQ]; simpa using d3),af_ d1,hp]
 ·have e:lb (bO (vT s))=39 :: lb s:=by
   show lb ((⟨#[39]⟩:aa_)++s)=_
   rw[←ec s,show(⟨#[39]⟩:aa_)=ba [39] from rfl,lu,dy]
   simp
  rw[e]
  unfold cV
  rw[af_ (by simp)]
  simp only[bz_,cu_,ec]
 ·cases b <;> rfl
 ·have e:lb (bO (vE (n.val:Int)))=lb (df (n.val:Int)):=rfl
  rw[e]
  have h1 : ∀ n:Fin 6,1≤n.val→([39]:ap).isPrefixOf (lb (df (n.val:Int)))=false∧([35]:ap).isPrefixOf (lb (df (n.val:Int)))=true∧lb (df (n.val:Int))≠jF∧lb (df (n.val:Int))≠kq:=by decide +kernel
  obtain⟨a1,a2,a3,a4⟩:=h1 n h0
  unfold cV
  rw[ad_ (by rw[a1]; decide),ad_ a4,ad_ a3,af_ a2,KD n h0,ad_ (by omega)]
theorem zb {w:ap} {n:Int} (h0:0≤n) (h1:n≤5) {a b d e:Int} {c f:aa_}:gZ (ba w) n a b c d e f=gZ (ba w) (n+1) a b c (if df n=ba w then 4 else d) (if df n=ba w then n else e) (if df n=ba w then eS else f):=by
 rw[vg,aI h1,oq h0 h1]
 simp only[ab_,so,ai_,gC]
 rw[wr (by omega) (by omega)]
 split <;> rfl
theorem IZ {α:Type} (w:ap) (f:Int→α) (z:α) (hz:z=f 0):(if df 5=ba w then f 5 else if df 4=ba w then f 4 else if df 3=ba w then f 3 else if df 2=ba w then f 2 else if df 1=ba w then f 1 else z)=f (ff w):=by
 unfold ff
 subst hz
 repeat' split <;> first | rfl | skip
theorem abD {w:ap}:gZ (ba w) 1 0 0 eS 0 0 eS=some ((if aA (if ff w=0 then v0 else vE (ff w))=true∧bO (if ff w=0 then v0 else vE (ff w))=ba w then(if ff w=0 then v0 else vE (ff w)) else v0,decide (aA (if ff w=0 then v0 else vE (ff w))=true∧bO (if ff w=0 then v0 else vE (ff w))=ba w),()),()):=by
 rw[zb (by decide) (by decide),zb (by decide) (by decide),zb (by decide) (by decide),zb (by decide) (by decide),zb (by decide) (by decide),vg,aD (by decide)]
 have e1:=IZ w (fun n=>if n=0 then(0:Int) else 4) 0 (by simp)
 have e2:=IZ w (fun n=>n) 0 rfl
 have e3:=IZ w (fun n=>eS) eS rfl
 simp only[show(1:Int)+1=2 from rfl,show(2:Int)+1=3 from rfl,show(3:Int)+1=4 from rfl,show(4:Int)+1=5 from rfl]
 simp only[show(5:Int)=0↔False by decide,show(4:Int)=0↔False by decide,show(3:Int)=0↔False by decide,show(2:Int)=0↔False by decide,show(1:Int)=0↔False by decide,aw_] at e1
 rw[e1,e2,e3]
 have e:((if ff w=0 then(0:Int) else 4),ff w,eS,())=(if ff w=0 then v0 else vE (ff w)):=by
  by_cases h:ff w=0
  ·rw[af_ h,af_ h,h]
   rfl
  ·rw[ad_ h,ad_ h]
   rfl
 rw[e]
 exact DE (by split <;> (show eS.size≤_; decide))
theorem oA {w:ap} (hw:w.length≤281474976710656):eN (ba w)=some (((bJ w).1,(bJ w).2,()),()):=by
 obtain⟨p1,p2⟩:=aaR (w:=w) (fun v h1 h2=>by have:=ZJ h1; rw[h2,dy] at this; exact this)
 have iC : ∀ v:ac,cV w=v→(some ((if aA v=true∧bO v=ba w then v else v0,decide (aA v=true∧bO v=ba w),()),()):Option ((ac×Bool×Unit)×Unit))=some (((bJ w).1,(bJ w).2,()),()):=by
  rintro v rfl
  rw[p1,p2]
 have hv:=cV.eq_def w
 have e1:(ag_ (ba w) == ag_ (⟨#[84,82,85,69]⟩:aa_))=decide (w=jF):=dG (b:=jF)
 have e2:(ag_ (ba w) == ag_ (⟨#[70,65,76,83,69]⟩:aa_))=decide (w=kq):=dG (b:=kq)
 have e0:(ag_ (ba w) == ag_ (⟨#[]⟩:aa_))=decide (w=[]):=dG (b:=[])
 rw[Lz,show(⟨#[39]⟩:aa_)=ba [39] from rfl,sJ w [39] (by omega),show(⟨#[35]⟩:aa_)=ba [35] from rfl,sI w [35] (by omega),e0,e1,e2]
 simp only[ab_,mw]
 cases h39:([39]:ap).isPrefixOf w with
 | true =>
  rw[af_ h39] at hv
  simp only[ba_]
  refine(DE (v:=vT (ba (w.drop 1))) ?_).trans (iC _ hv)
  show(ba _).size≤_
  rw[aQ]
  simp
  omega
 | false =>
  rw[ad_ (by rw[h39]; decide)] at hv
  simp only[aj_,aw_]
  by_cases hf:w=kq
  ·rw[af_ hf] at hv
   rw[aI hf]
   exact(DE (v:=vB (decide (w=jF))) (by show eS.size≤_; decide)).trans (iC _ hv)
  ·rw[ad_ hf] at hv
   rw[aD hf]
   by_cases ht:w=jF
   ·rw[af_ ht] at hv
    rw[aI ht]
    exact(DE (v:=vB (decide (w=jF))) (by show eS.size≤_; decide)).trans (iC _ hv)
   ·rw[ad_ ht] at hv
    rw[aD ht]
    cases h35:([35]:ap).isPrefixOf w with
    | true =>
     rw[af_ h35] at hv
     simp only[ba_]
     exact abD.trans (iC _ hv)
    | false =>
     rw[ad_ (by rw[h35]; decide)] at hv
     simp only[aj_,aw_]
     by_cases he:w=[]
     ·rw[ad_ (by simpa using he)] at hv
      simp only[he,decide_true,bc_,aj_,aw_]
      rw[he] at hv iC
      exact(DE (v:=v0) (w:=[]) (by decide)).trans (iC _ hv)
     ·rw[af_ he] at hv
      simp only[he,decide_false,Bool.not_false,ba_,xv hw,ab_,ik]
      exact(DE (v:=vN (ct w).1) (by show eS.size≤_; decide)).trans (iC _ hv)
end Go.Proofs.YthbkdfcmjmmpgaaGreatDoor.Abs
