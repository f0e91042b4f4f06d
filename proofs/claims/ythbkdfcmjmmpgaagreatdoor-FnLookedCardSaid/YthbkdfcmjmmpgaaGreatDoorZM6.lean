/- What a formula says: both sides. -/
import Derived.Test.YthbkdfcmjmmpgaaGreatDoorZM5
set_option linter.unusedVariables false
set_option linter.unusedSimpArgs false
set_option linter.unusedSectionVars false
open Bool renaming and_eq_true→ag_,false_eq_true→ak_,not_true→bc_
open ByteArray renaming toList→ah_
open Go.IntKind renaming i64→hf_,wrap→he_
open Go.Lib renaming decDigits→az_,parseIntB→ef_,parseUintB→gn_,parseUintM→fj_
open Int renaming tdiv→dw_,tmod→fp_,toNat_natCast→ca_,toNat_of_nonneg→cp_
open List renaming all_cons→cb_,append_nil→bv_,drop_succ_cons→bu_,drop_zero→cu_,getD_eq_getElem?_getD→ao_,getElem?_eq_getElem→as_,getElem_mem→ed_,head?_cons→dg_,length_append→af_,length_cons→aj_,length_drop→dp_,length_eq_one_iff→eb_,length_nil→bl_,length_singleton→ad_,nil_append→df_
open List.cons renaming inj→fy_
open Nat renaming le_refl→aq_,lt_of_lt_of_le→cv_,pow_le_pow_right→fs_
open Option renaming bind_some→ab_
open Option.some renaming injEq→bd_,inj→ch_
open _root_ renaming ByteArray→aa_,beq_iff_eq→bx_,decide_eq_false→bf_,decide_eq_true_eq→ai_,decide_eq_true→bb_,if_false→av_,if_neg→ac_,if_pos→ae_,if_true→ba_
namespace Go.Proofs.YthbkdfcmjmmpgaaGreatDoor.Abs
open Go
def cB (a:ak) (r:am):Bool:=cu r.1 a.1.1 a.2.1.1 && cu r.2.1 a.1.2.1 a.2.1.2.1
def dB (x:ab):ak:=if x.1=2 then(x.2.2.2.1.1,x.2.2.2.1.1,()) else(x.2.2.2.1.1,x.2.2.2.2.1.1,())
theorem qC (r:am) (a:ak):px r a=some ((cB a r,()),()):=by
 rw[Ox]
 unfold cB
 simp only[kf,ab_]
 cases cu r.1 a.1.1 a.2.1.1 <;> simp
theorem vK (a:ak) (r:am):pu a r=some ((cB a r,()),()):=by
 rw[Oo]
 unfold cB
 simp only[gu,ab_]
 cases cu r.1 a.1.1 a.2.1.1 <;> simp
theorem zu (x:ab):j9 x=some ((dB x,()),()):=by
 rw[yO]
 unfold dB
 by_cases h:x.1=2 <;> simp[h]
def jj (l:List ah) (a:ak):List ac:=(l.filter fun c=>cB a c.1).map fun c=>c.2.1
def jq (ev:Int→ac) (f:List ab) (l:List ah):List Int→List ac
 | []=>[]
 | k :: ks=>(if(cq f k).1=3 then jj l (dB (cq f k)) else [ev k])++jq ev f l ks
def UB (op:Int) (n:Int) (kid:Nat→ac) (args:List ac):ac :=
 if op=5 then(if eH (kid 0)=true then(if(kid 0).2.1≠0 then kid 1 else if n > 2 then kid 2 else vB false) else ig (kid 0))
 else if op=8 then(if eH (kid 0)=true then vB (!decide ((kid 0).2.1≠0)) else ig (kid 0))
 else if op=9 then(if cW (kid 0)=true then vN ((kid 0).2.1.natAbs:Int) else ig (kid 0))
 else if op=10 then(if mJ (kid 0)=true then vN ((pF (kid 0)).size:Int) else ig (kid 0))
 else AQ op args
def YI (op:Int) (a b:ac):ac:=if op=1 then kg a b else if op=2 then AI a b else if op=3 then JB a b else if op=4 then Jy a b else if op=5 then AM a b else AN op a b
def cb:Nat→List ab→List ah→Int→ac
 | 0,_,_,_=>v0
 | n+1,f,l,k =>
  let x:=cq f k
  let kid:=fun i:Nat=>cb n f l (x.2.2.2.2.2.1.getD i 0)
  if x.1=1 then x.2.2.1 else if x.1=2 then f8 l x.2.2.2.1.1 else if x.1=3 then vE 2 else if x.1=4 then FZ (kid 0)
  else if x.1=6 then UB x.2.1 (kl x) kid (jq (cb n f l) f l x.2.2.2.2.2.1) else YI x.2.1 (kid 0) (kid 1)
section
variable {f:List ab} {l:List ah} (hl:l.length≤1000) (hf:f.length≤10000000)
include hl hf
theorem vL {k:Int} {i:Int} {a:ak} : ∀(ys pre:List ah) (acc:List ac),l=pre++ys→acc.length+ys.length≤1000000→ke f k l i (pre.length:Int) acc a.1 a.2.1=nk f k l (he_ hf_ (i+1)) (acc++jj ys a)
 | [],pre,acc,he,hb=>by
  rw[zj,aE (br he)]
  simp[jj]
 | y :: ys,pre,acc,he,hb=>by
  have hb':acc.length+(ys.length+1)≤1000000:=by simpa using hb
  rw[zj,aJ (bF he),bK he,qC,ab_,aM he (by omega)]
  show(if cB a y.1=true then _ else _)=_
  cases ha:cB a y.1
  ·rw[ac_ (by decide),vL ys _ acc (aC he) (by omega)]
   simp[jj,ha]
  ·rw[ae_ rfl,bK he,bi (MF (by simp only[ad_]; omega)),vL ys _ _ (aC he) (by simp only[af_,ad_]; omega)]
   simp[jj,ha]
theorem ry {k:Int} {x:ab} (hk0:0≤k) (hk:f[k.toNat]? = some x) {ks:List Int} {i:Int} : ∀(ys pre:List ah) (acc:List ac),l=pre++ys→acc.length+ys.length≤1000000→jh f l k ks (ks.length:Int) i l (l.length:Int) (pre.length:Int) acc=kI f l ks (ks.length:Int) (he_ hf_ (i+1)) (acc++jj ys (dB x))
 | [],pre,acc,he,hb=>by
  rw[wP,aE (br he)]
  simp[jj]
 | y :: ys,pre,acc,he,hb=>by
  have hb':acc.length+(ys.length+1)≤1000000:=by simpa using hb
  rw[wP,aJ (bF he),bK he,bU hk0 hk,zu,ab_,vK,ab_,aM he (by omega)]
  show(if cB (dB x) y.1=true then _ else _)=_
  cases ha:cB (dB x) y.1
  ·rw[ac_ (by decide),ry hk0 hk ys _ acc (aC he) (by omega)]
   simp[jj,ha]
  ·rw[ae_ rfl,bi (MF (by simp only[ad_]; omega)),ry hk0 hk ys _ _ (aC he) (by simp only[af_,ad_]; omega)]
   simp[jj,ha]
omit hf in
theorem AR (a:ak):(jj l a).length≤1000:=by
 unfold jj
 rw[List.length_map]
 exact Nat.le_trans (List.length_filter_le _ _) hl
theorem vM {k:Int} {x:ab} {ev:Int→ac} (hk0:0≤k) (hk:f[k.toNat]? = some x) (hkl:x.2.2.2.2.2.1.length≤100) (hev : ∀ j∈x.2.2.2.2.2.1,0≤j∧j < f.length∧fm f j l=some ((ev j,()),())) :
  ∀(ys pre:List Int) (acc:List ac),x.2.2.2.2.2.1=pre++ys→acc.length≤pre.length*1000→nk f k l (pre.length:Int) acc=some ((acc++jq ev f l ys,()),())
 | [],pre,acc,he,hb=>by
  rw[BB,bU hk0 hk,aE (br he)]
  simp[jq]
 | y :: ys,pre,acc,he,hb=>by
  have hlen:pre.length < 100:=by
   rw[he,af_,aj_] at hkl
   omega
  obtain⟨y0,y1,y2⟩:=hev y (by rw[he]; simp)
  obtain⟨z,hz⟩ : ∃ z,f[y.toNat]? = some z:=⟨f[y.toNat]'(by omega),as_ _⟩
  have hnz:cq f y=z:=by
   unfold cq
   rw[ao_,hz]
   rfl
  rw[BB,bU hk0 hk,aJ (bF he),bU hk0 hk,bK he,bU y0 hz]
  unfold jq
  rw[hnz]
  by_cases h3:z.1=3
  ·rw[ac_ (by simp[h3]),ae_ h3,show ke f k l (pre.length:Int) 0 acc z.2.2.2.1.1 z.2.2.2.2.1.1=ke f k l (pre.length:Int) (([]:List ah).length:Int) acc (z.2.2.2.1.1,z.2.2.2.2.1.1,()).1 (z.2.2.2.1.1,z.2.2.2.2.1.1,()).2.1 from rfl,vL hl hf l [] acc rfl (by omega),aM he (by omega),vM hk0 hk hkl hev ys _ _ (aC he)]
   ·have ha:dB z=(z.2.2.2.1.1,z.2.2.2.2.1.1,()):=by
     unfold dB
     rw[ac_ (by omega)]
    rw[ha]
    simp
   ·have:=AR hl (z.2.2.2.1.1,z.2.2.2.2.1.1,())
    simp only[af_,ad_]
    omega
  ·rw[ae_ (by simp[h3]),ac_ h3,bU hk0 hk,bK he,y2,ab_,bi (MF (by simp only[ad_]; omega)),aM he (by omega),vM hk0 hk hkl hev ys _ _ (aC he)]
   ·simp
   ·simp only[af_,ad_]
    omega
theorem nw {x:ab} {ev:Int→ac} (hkl:x.2.2.2.2.2.1.length≤100) (hev : ∀ j∈x.2.2.2.2.2.1,0≤j∧j < f.length∧gq f j l=some ((ev j,()),())) :
  ∀(ys pre:List Int) (acc:List ac),x.2.2.2.2.2.1=pre++ys→acc.length≤pre.length*1000→kI f l x.2.2.2.2.2.1 (x.2.2.2.2.2.1.length:Int) (pre.length:Int) acc=some ((acc++jq ev f l ys,()),())
 | [],pre,acc,he,hb=>by
  rw[wH,aE (br he)]
  simp[jq]
 | y :: ys,pre,acc,he,hb=>by
  have hlen:pre.length < 100:=by
   rw[he,af_,aj_] at hkl
   omega
  obtain⟨y0,y1,y2⟩:=hev y (by rw[he]; simp)
  obtain⟨z,hz⟩ : ∃ z,f[y.toNat]? = some z:=⟨f[y.toNat]'(by omega),as_ _⟩
  have hnz:cq f y=z:=by
   unfold cq
   rw[ao_,hz]
   rfl
  rw[wH,aJ (bF he),bK he,bU y0 hz]
  unfold jq
  rw[hnz]
  by_cases h3:z.1=3
  ·rw[ac_ (by simp[h3]),ae_ h3,show jh f l y x.2.2.2.2.2.1 (x.2.2.2.2.2.1.length:Int) (pre.length:Int) l (l.length:Int) 0 acc=jh f l y x.2.2.2.2.2.1 (x.2.2.2.2.2.1.length:Int) (pre.length:Int) l (l.length:Int) (([]:List ah).length:Int) acc from rfl,ry hl hf y0 hz l [] acc rfl (by omega),aM he (by omega),nw hkl hev ys _ _ (aC he)]
   ·simp
   ·have:=AR hl (dB z)
    simp only[af_,ad_]
    omega
  ·rw[ae_ (by simp[h3]),ac_ h3,y2,ab_,bi (MF (by simp only[ad_]; omega)),aM he (by omega),nw hkl hev ys _ _ (aC he)]
   ·simp
   ·simp only[af_,ad_]
    omega
omit hf in
theorem Dj {ev:Int→ac} : ∀ ks:List Int,(jq ev f l ks).length≤ks.length*1001
 | []=>by simp[jq]
 | k :: ks=>by
  have:=Dj (ev:=ev) ks
  have h:=AR hl (dB (cq f k))
  unfold jq
  rw[af_,aj_]
  split
  ·omega
  ·rw[ad_]
   omega
omit hl hf in
theorem F8 {ev:Int→ac} (hv : ∀ c∈l,az c.2.1=true) : ∀ ks:List Int,(∀ j∈ks,az (ev j)=true) → ∀ v∈jq ev f l ks,az v=true
 | [],_,v,h=>by cases h
 | k :: ks,he,v,h=>by
  unfold jq at h
  rcases List.mem_append.1 h with h | h
  ·split at h
   ·unfold jj at h
    obtain⟨c,hc,rfl⟩:=List.mem_map.1 h
    exact hv c (List.mem_filter.1 hc).1
   ·rw[List.mem_singleton.1 h]
    exact he k (List.mem_cons_self ..)
  ·exact F8 hv ks (fun j hj=>he j (List.mem_cons_of_mem _ hj)) v h
theorem Dk {x:ab} (h:dj x=true):(x.1=1∧az x.2.2.1=true)∨x.1=2∨x.1=3∨(x.1=4∧kl x=1)∨(x.1=5∧kl x=2∧cu x.2.1 1 11=true)∨(x.1=6∧kM x.2.1 (kl x)=true):=by
 unfold dj at h
 by_cases h1:x.1=1
 ·rw[ae_ h1] at h
  simp only[ag_] at h
  exact .inl ⟨h1,h.1.1.2⟩
 rw[ac_ h1] at h
 by_cases h2:x.1=2
 ·exact .inr (.inl h2)
 rw[ac_ h2] at h
 by_cases h3:x.1=3
 ·exact .inr (.inr (.inl h3))
 rw[ac_ h3] at h
 by_cases h4:x.1=4
 ·rw[ae_ h4] at h
  simp only[ag_,ai_] at h
  exact .inr (.inr (.inr (.inl ⟨h4,h.2⟩)))
 rw[ac_ h4] at h
 by_cases h5:x.1=5
 ·rw[ae_ h5] at h
  simp only[ag_,ai_] at h
  exact .inr (.inr (.inr (.inr (.inl ⟨h5,h.2,h.1.1.1.1⟩))))
 rw[ac_ h5] at h
 by_cases h6:x.1=6
 ·rw[ae_ h6] at h
  simp only[ag_,ai_] at h
  exact .inr (.inr (.inr (.inr (.inr ⟨h6,h.1.1.1⟩))))
 rw[ac_ h6] at h
 cases h
theorem Dl {op k:Int} (h:kM op k=true):(op=5∧(k=2∨k=3))∨((op=1∨op=2∨op=3∨op=4∨op=6∨op=7)∧1≤k∧k≤10)∨((op=8∨op=9∨op=10)∧k=1):=by
 unfold kM at h
 by_cases h5:op=5
 ·rw[ae_ h5] at h
  simp only[Bool.or_eq_true,ai_] at h
  exact .inl ⟨h5,h⟩
 ·rw[ac_ h5] at h
  split at h
  ·rename_i h7
   have:=bm.1 h7
   have:=bm.1 h
   exact .inr (.inl ⟨by omega,by omega⟩)
  ·split at h
   ·rename_i h8
    have:=bm.1 h8
    simp only[ai_] at h
    exact .inr (.inr ⟨by omega,h⟩)
   ·cases h
omit hl hf in
theorem Lj {v:ac} (h:cW v=true):(if v.2.1 < IntKind.i64.wrap (0 - v.2.1) then IntKind.i64.wrap (0 - v.2.1) else v.2.1)=(v.2.1.natAbs:Int):=by
 have:=cF h
 rw[wr (by omega) (by omega)]
 split <;> omega
omit hl hf in
theorem O1 {n:Int} (h0 : -1000000000000000≤n) (h1:n≤1000000000000000):bnd n=vN n:=by
 unfold bnd
 rw[ae_ (bm.2 ⟨h0,h1⟩)]
theorem Se (A : ∀(i:Nat) (x:ab),f[i]? = some x→lD f i x) (hv : ∀ c∈l,az c.2.1=true) : ∀(n:Nat) (k:Int),0≤k→k < n→k < f.length →
  fm f k l=some ((cb n f l k,()),())∧gq f k l=some ((cb n f l k,()),())∧az (cb n f l k)=true
 | 0,k,h0,h1,_=>by omega
 | n+1,k,h0,h1,h2=>by
  obtain⟨x,hx⟩ : ∃ y,f[k.toNat]? = some y:=⟨f[k.toNat]'(by omega),as_ _⟩
  have hst:=A _ _ hx
  have hnx:cq f k=x:=by
   unfold cq
   rw[ao_,hx]
   rfl
  have hk : ∀ j∈x.2.2.2.2.2.1,fm f j l=some ((cb n f l j,()),())∧gq f j l=some ((cb n f l j,()),())∧az (cb n f l j)=true:=fun j hj=>by
   have:=hst.2 j hj
   exact Se A hv n j this.1 (by omega) (by omega)
  rw[T4,Ot,bU h0 hx,bU h0 hx]
  unfold cb
  simp only[hnx]
  rcases Dk hl hf hst.1 with⟨k1,ho⟩ | k2 | k3 | ⟨k4,hkl⟩ | ⟨k5,hkl,hop⟩ | ⟨k6,hop⟩
  ·simp[k1,ho]
  ·simp[k2,OU (xs:=l) (by omega),H4 (xs:=l) (by omega),AP hv]
  ·simp[k3,dQ,gJ,nu (n:=2) (by decide) (by decide)]
  ·obtain⟨a,ha⟩ : ∃ a,x.2.2.2.2.2.1=[a]:=eb_.1 (by unfold kl at hkl; omega)
   obtain⟨e1,e2,e3⟩:=hk a (by rw[ha]; simp)
   have hi : ∀(d:Int) (g:Int→Option ((ac×Unit)×Unit)),ix [a] 0 d g=g a:=fun d g=>bU (by decide) rfl
   simp[k4,ha,hi,e1,e2,E3 (cg e3),E4 (cg e3),ZN]
  ·obtain⟨a,b,ha⟩ : ∃ a b,x.2.2.2.2.2.1=[a,b]:=by
    cases hq:x.2.2.2.2.2.1 with
    | nil=>unfold kl at hkl; rw[hq] at hkl; simp at hkl
    | cons a t=>cases t with
     | nil=>unfold kl at hkl; rw[hq] at hkl; simp at hkl
     | cons b t=>cases t with
      | nil=>exact⟨a,b,rfl⟩
      | cons c t=>unfold kl at hkl; rw[hq] at hkl; simp at hkl; omega
   obtain⟨e1,e2,e3⟩:=hk a (by rw[ha]; simp)
   obtain⟨g1,g2,g3⟩:=hk b (by rw[ha]; simp)
   have hi : ∀(d:Int) (g:Int→Option ((ac×Unit)×Unit)),ix [a,b] 0 d g=g a:=fun d g=>bU (by decide) rfl
   have hj : ∀(d:Int) (g:Int→Option ((ac×Unit)×Unit)),ix [a,b] 1 d g=g b:=fun d g=>bU (by decide) rfl
   have b1:=cg e3
   have b2:=cg g3
   simp only[k5,ha,hi,hj,e1,e2,g1,g2,ab_,Jz b1 b2,JA b1 b2,YA b1 b2,F0 b1 b2,Wn b1 b2,Lb b1 b2,YB b1 b2,OG b1 b2,Uo b1 b2,HT b1 b2,YD b1 b2,OM b1 b2,List.getD_cons_zero,List.getD_cons_succ]
   unfold YI
   by_cases o1:x.2.1=1
   ·simp[o1,D3]
   by_cases o2:x.2.1=2
   ·simp[o2,Ux]
   by_cases o3:x.2.1=3
   ·simp[o3,ZL]
   by_cases o4:x.2.1=4
   ·simp[o4,ZM]
   by_cases o5:x.2.1=5
   ·simp[o5,Ww]
   simp[o1,o2,o3,o4,o5,Wx]
  ·have hcs:=Dl hl hf hop
   have hn10:x.2.2.2.2.2.1.length≤10:=by unfold kl at hcs; omega
   have hne:1≤x.2.2.2.2.2.1.length:=by unfold kl at hcs; omega
   obtain⟨a,t,hat⟩ : ∃ a t,x.2.2.2.2.2.1=a :: t:=by
    cases hq:x.2.2.2.2.2.1 with
    | nil=>rw[hq] at hne; simp at hne
    | cons a t=>exact⟨a,t,rfl⟩
   obtain⟨e1,e2,e3⟩:=hk a (by rw[hat]; simp)
   have hi : ∀(d:Int) (g:Int→Option ((ac×Unit)×Unit)),ix x.2.2.2.2.2.1 0 d g=g a:=fun d g=>bU (by decide) (by rw[hat]; rfl)
   have hg0:x.2.2.2.2.2.1.getD 0 0=a:=by rw[hat]; rfl
   rw[Ua,HL,bU h0 hx]
   have b1:=cg e3
   unfold UB
   rcases hcs with⟨o5,hk2⟩ | ⟨oo,_⟩ | ⟨oo,_⟩
   ·
    have hm : ∀ j:Nat,j < x.2.2.2.2.2.1.length → ∃ c,x.2.2.2.2.2.1[j]? = some c∧x.2.2.2.2.2.1.getD j 0=c∧fm f c l=some ((cb n f l c,()),())∧gq f c l=some ((cb n f l c,()),())∧az (cb n f l c)=true:=fun j hj=>by
     refine⟨x.2.2.2.2.2.1[j],as_ _,by simp[ao_,hj],hk _ (ed_ _)⟩
    rw[HJ]
    simp only[k6,o5,hi,hg0,e1,e2,ab_,ue e3,lQ b1,fd b1,mI,t7,beq_self_eq_true,ba_]
    unfold kl at hk2
    cases ht:eH (cb n f l a) with
    | false =>
     have:=cT (cb n f l a)
     simp[this,nv]
    | true =>
     obtain⟨c,c1,c2,c3,c4,c5⟩:=hm 1 (by omega)
     have hi1 : ∀(d:Int) (g:Int→Option ((ac×Unit)×Unit)),ix x.2.2.2.2.2.1 1 d g=g c:=fun d g=>bU (by decide) c1
     simp only[ba_,hi1,c2,c3,c4,ab_]
     by_cases hz:(cb n f l a).2.1=0
     ·rcases hk2 with h22 | h33
      ·have h22':x.2.2.2.2.2.1.length=2:=by omega
       simp[hz,v0,kl,h22',Sd]
      ·obtain⟨d,d1,d2,d3,d4,d5⟩:=hm 2 (by omega)
       have hi2 : ∀(z:Int) (g:Int→Option ((ac×Unit)×Unit)),ix x.2.2.2.2.2.1 2 z g=g d:=fun z g=>bU (by decide) d1
       have h33':x.2.2.2.2.2.1.length=3:=by omega
       have d2':x.2.2.2.2.2.1[2]?.getD 0=d:=by rw[←ao_]; exact d2
       have d6 : ∀ hh:2 < x.2.2.2.2.2.1.length,x.2.2.2.2.2.1[2]'hh=d:=fun hh=>by
        rw[as_ hh] at d1
        exact ch_ d1
       simp[hz,v0,kl,h33',hi2,d6,d3,d4,d5]
     ·have c2':x.2.2.2.2.2.1[1]?.getD 0=c:=by rw[←ao_]; exact c2
      simp[hz,v0,c5,c2']
   ·
    have h5:x.2.1≠5:=by omega
    have h8:x.2.1≠8:=by omega
    have h9:x.2.1≠9:=by omega
    have h10:x.2.1≠10:=by omega
    have ea:=vM hl hf (ev:=cb n f l) h0 hx (by omega) (fun j hj=>⟨(hst.2 j hj).1,by have:=(hst.2 j hj).2.1; omega,(hk j hj).1⟩) x.2.2.2.2.2.1 [] [] rfl (by simp)
    have eb:=nw hl hf (x:=x) (ev:=cb n f l) (by omega) (fun j hj=>⟨(hst.2 j hj).1,by have:=(hst.2 j hj).2.1; omega,(hk j hj).2.1⟩) x.2.2.2.2.2.1 [] [] rfl (by simp)
    have hal:=Dj hl (f:=f) (ev:=cb n f l) x.2.2.2.2.2.1
    have hav:=F8 (f:=f) (ev:=cb n f l) hv x.2.2.2.2.2.1 (fun j hj=>(hk j hj).2.2)
    simp only[df_] at ea eb
    generalize jq (cb n f l) f l x.2.2.2.2.2.1=args at ea eb hal hav ⊢
    have ea':Jf f k l=some ((args,()),()):=by rw[T8]; exact ea
    have eb':cM f x l=some ((args,()),()):=by rw[CW]; exact eb
    have hlen:args.length≤100000000:=by omega
    simp only[ea',eb',ab_,UA hlen hav oo,Dh hlen hav,H6 hlen hav,Di hlen hav]
    have hfo:=O0 (op:=x.2.1) hav hlen
    unfold AQ at hfo ⊢
    rcases oo with o | o | o | o | o | o <;> simp[k6,o] <;> simpa[o] using hfo
   ·
    simp only[k6,hi,hg0,e1,e2,ab_]
    rw[HK]
    obtain⟨t,e4,e5⟩:=ud b1
    simp only[ue e3,AL b1,t7,kX,lQ b1,eP b1,e4,fd b1,mI,iv,ab_,show((0,0,({data := #[]}:aa_),()):ac)=v0 from rfl,Jz b1 (b:=v0) (by decide)]
    rcases oo with o | o | o
    ·simp only[o]
     cases ht:eH (cb n f l a) with
     | false =>
      have:=cT (cb n f l a)
      simp[this,nv]
     | true=>simp[v0,Sd]
    ·simp only[o]
     have h0n:cW v0=true:=by decide
     cases ht:cW (cb n f l a) with
     | false =>
      have:=cT (cb n f l a)
      have ha:kg (cb n f l a) v0=ig (cb n f l a):=by
       unfold kg qY
       rw[ac_ (by rw[ht]; decide)]
      simp[ha,this,nv]
     | true =>
      have hr:=cF ht
      have ha:kg (cb n f l a) v0=vN (cb n f l a).2.1:=by
       unfold kg qY
       rw[ae_ ht,ae_ h0n]
       show bnd ((cb n f l a).2.1+0)=_
       rw[Int.add_zero,O1 hr.1 hr.2]
      have hN:az (vN (cb n f l a).2.1)=true:=zq hr.1 hr.2
      have hneg:FZ (vN (cb n f l a).2.1)=vN (-(cb n f l a).2.1):=by
       unfold FZ AI qY
       rw[ae_ h0n,ae_ (by unfold cW; rw[hN]; rfl)]
       show bnd (0 - (cb n f l a).2.1)=_
       rw[O1 (by omega) (by omega)]
       congr 1
       omega
      have habs:=Lj ht
      have hok:az (vN ((cb n f l a).2.1.natAbs:Int))=true:=zq (by omega) (by omega)
      simp only[ha,habs,E3 (cg hN),hneg,ab_]
      by_cases hlt:(cb n f l a).2.1 < 0
      ·have:(-(cb n f l a).2.1)=((cb n f l a).2.1.natAbs:Int):=by omega
       simp[vN,hlt,this] at hok ⊢
       exact hok
      ·have:(cb n f l a).2.1=((cb n f l a).2.1.natAbs:Int):=by omega
       simp[vN,hlt] at hok ⊢
       exact⟨this,hok⟩
    ·simp only[o]
     cases ht:mJ (cb n f l a) with
     | false =>
      have:=cT (cb n f l a)
      simp[this,nv]
     | true =>
      have hz:=rt e3
      have hb:=O1 (n:=((pF (cb n f l a)).size:Int)) (by omega) (by omega)
      have hok:az (vN ((pF (cb n f l a)).size:Int))=true:=zq (by omega) (by omega)
      rw[e5 ht]
      simp[v0,hb,hok]
theorem O2 (A : ∀(i:Nat) (x:ab),f[i]? = some x→lD f i x) (hv : ∀ c∈l,az c.2.1=true) : ∀(n:Nat) (k:Int),0≤k→k < n→k < f.length →
  gq f k l=some ((cb n f l k,()),())∧az (cb n f l k)=true
 | 0,k,h0,h1,_=>by omega
 | n+1,k,h0,h1,h2=>by
  obtain⟨x,hx⟩ : ∃ y,f[k.toNat]? = some y:=⟨f[k.toNat]'(by omega),as_ _⟩
  have hst:=A _ _ hx
  have hnx:cq f k=x:=by
   unfold cq
   rw[ao_,hx]
   rfl
  have hk : ∀ j∈x.2.2.2.2.2.1,gq f j l=some ((cb n f l j,()),())∧az (cb n f l j)=true:=fun j hj=>by
   have:=hst.2 j hj
   exact O2 A hv n j this.1 (by omega) (by omega)
  rw[Ot,bU h0 hx]
  unfold cb
  simp only[hnx]
  rcases Dk hl hf hst.1 with⟨k1,ho⟩ | k2 | k3 | ⟨k4,hkl⟩ | ⟨k5,hkl,hop⟩ | ⟨k6,hop⟩
  ·simp[k1,ho]
  ·simp[k2,H4 (xs:=l) (by omega),AP hv]
  ·simp[k3,gJ,nu (n:=2) (by decide) (by decide)]
  ·obtain⟨a,ha⟩ : ∃ a,x.2.2.2.2.2.1=[a]:=eb_.1 (by unfold kl at hkl; omega)
   obtain⟨e2,e3⟩:=hk a (by rw[ha]; simp)
   have hi : ∀(d:Int) (g:Int→Option ((ac×Unit)×Unit)),ix [a] 0 d g=g a:=fun d g=>bU (by decide) rfl
   simp[k4,ha,hi,e2,E4 (cg e3),ZN]
  ·obtain⟨a,b,ha⟩ : ∃ a b,x.2.2.2.2.2.1=[a,b]:=by
    cases hq:x.2.2.2.2.2.1 with
    | nil=>unfold kl at hkl; rw[hq] at hkl; simp at hkl
    | cons a t=>cases t with
     | nil=>unfold kl at hkl; rw[hq] at hkl; simp at hkl
     | cons b t=>cases t with
      | nil=>exact⟨a,b,rfl⟩
      | cons c t=>unfold kl at hkl; rw[hq] at hkl; simp at hkl; omega
   obtain⟨e2,e3⟩:=hk a (by rw[ha]; simp)
   obtain⟨g2,g3⟩:=hk b (by rw[ha]; simp)
   have hi : ∀(d:Int) (g:Int→Option ((ac×Unit)×Unit)),ix [a,b] 0 d g=g a:=fun d g=>bU (by decide) rfl
   have hj : ∀(d:Int) (g:Int→Option ((ac×Unit)×Unit)),ix [a,b] 1 d g=g b:=fun d g=>bU (by decide) rfl
   have b1:=cg e3
   have b2:=cg g3
   simp only[k5,ha,hi,hj,e2,g2,ab_,JA b1 b2,F0 b1 b2,Lb b1 b2,OG b1 b2,HT b1 b2,OM b1 b2,List.getD_cons_zero,List.getD_cons_succ]
   unfold YI
   by_cases o1:x.2.1=1
   ·simp[o1,D3]
   by_cases o2:x.2.1=2
   ·simp[o2,Ux]
   by_cases o3:x.2.1=3
   ·simp[o3,ZL]
   by_cases o4:x.2.1=4
   ·simp[o4,ZM]
   by_cases o5:x.2.1=5
   ·simp[o5,Ww]
   simp[o1,o2,o3,o4,o5,Wx]
  ·have hcs:=Dl hl hf hop
   have hn10:x.2.2.2.2.2.1.length≤10:=by unfold kl at hcs; omega
   have hne:1≤x.2.2.2.2.2.1.length:=by unfold kl at hcs; omega
   obtain⟨a,t,hat⟩ : ∃ a t,x.2.2.2.2.2.1=a :: t:=by
    cases hq:x.2.2.2.2.2.1 with
    | nil=>rw[hq] at hne; simp at hne
    | cons a t=>exact⟨a,t,rfl⟩
   obtain⟨e2,e3⟩:=hk a (by rw[hat]; simp)
   have hi : ∀(d:Int) (g:Int→Option ((ac×Unit)×Unit)),ix x.2.2.2.2.2.1 0 d g=g a:=fun d g=>bU (by decide) (by rw[hat]; rfl)
   have hg0:x.2.2.2.2.2.1.getD 0 0=a:=by rw[hat]; rfl
   rw[HL]
   have b1:=cg e3
   unfold UB
   rcases hcs with⟨o5,hk2⟩ | ⟨oo,_⟩ | ⟨oo,_⟩
   ·
    have hm : ∀ j:Nat,j < x.2.2.2.2.2.1.length → ∃ c,x.2.2.2.2.2.1[j]? = some c∧x.2.2.2.2.2.1.getD j 0=c∧gq f c l=some ((cb n f l c,()),())∧az (cb n f l c)=true:=fun j hj=>by
     refine⟨x.2.2.2.2.2.1[j],as_ _,by simp[ao_,hj],hk _ (ed_ _)⟩
    rw[HJ]
    simp only[k6,o5,hi,hg0,e2,ab_,lQ b1,fd b1,mI,beq_self_eq_true,ba_]
    unfold kl at hk2
    cases ht:eH (cb n f l a) with
    | false =>
     have:=cT (cb n f l a)
     simp[this,nv]
    | true =>
     obtain⟨c,c1,c2,c4,c5⟩:=hm 1 (by omega)
     have hi1 : ∀(d:Int) (g:Int→Option ((ac×Unit)×Unit)),ix x.2.2.2.2.2.1 1 d g=g c:=fun d g=>bU (by decide) c1
     simp only[ba_,hi1,c2,c4,ab_]
     by_cases hz:(cb n f l a).2.1=0
     ·rcases hk2 with h22 | h33
      ·have h22':x.2.2.2.2.2.1.length=2:=by omega
       simp[hz,v0,kl,h22',Sd]
      ·obtain⟨d,d1,d2,d4,d5⟩:=hm 2 (by omega)
       have hi2 : ∀(z:Int) (g:Int→Option ((ac×Unit)×Unit)),ix x.2.2.2.2.2.1 2 z g=g d:=fun z g=>bU (by decide) d1
       have h33':x.2.2.2.2.2.1.length=3:=by omega
       have d2':x.2.2.2.2.2.1[2]?.getD 0=d:=by rw[←ao_]; exact d2
       have d6 : ∀ hh:2 < x.2.2.2.2.2.1.length,x.2.2.2.2.2.1[2]'hh=d:=fun hh=>by
        rw[as_ hh] at d1
        exact ch_ d1
       simp[hz,v0,kl,h33',hi2,d6,d4,d5]
     ·have c2':x.2.2.2.2.2.1[1]?.getD 0=c:=by rw[←ao_]; exact c2
      simp[hz,v0,c5,c2']
   ·
    have h5:x.2.1≠5:=by omega
    have h8:x.2.1≠8:=by omega
    have h9:x.2.1≠9:=by omega
    have h10:x.2.1≠10:=by omega
    have eb:=nw hl hf (x:=x) (ev:=cb n f l) (by omega) (fun j hj=>⟨(hst.2 j hj).1,by have:=(hst.2 j hj).2.1; omega,(hk j hj).1⟩) x.2.2.2.2.2.1 [] [] rfl (by simp)
    have hal:=Dj hl (f:=f) (ev:=cb n f l) x.2.2.2.2.2.1
    have hav:=F8 (f:=f) (ev:=cb n f l) hv x.2.2.2.2.2.1 (fun j hj=>(hk j hj).2)
    simp only[df_] at eb
    generalize jq (cb n f l) f l x.2.2.2.2.2.1=args at eb hal hav ⊢
    have eb':cM f x l=some ((args,()),()):=by rw[CW]; exact eb
    have hlen:args.length≤100000000:=by omega
    simp only[eb',ab_,Dh hlen hav,H6 hlen hav,Di hlen hav]
    have hfo:=O0 (op:=x.2.1) hav hlen
    unfold AQ at hfo ⊢
    rcases oo with o | o | o | o | o | o <;> simp[k6,o] <;> simpa[o] using hfo
   ·
    simp only[k6,hi,hg0,e2,ab_]
    rw[HK]
    obtain⟨t,e4,e5⟩:=ud b1
    simp only[lQ b1,eP b1,e4,fd b1,mI,iv,ab_,show((0,0,({data := #[]}:aa_),()):ac)=v0 from rfl]
    rcases oo with o | o | o
    ·simp only[o]
     cases ht:eH (cb n f l a) with
     | false =>
      have:=cT (cb n f l a)
      simp[this,nv]
     | true=>simp[v0,Sd]
    ·simp only[o]
     cases ht:cW (cb n f l a) with
     | false =>
      have:=cT (cb n f l a)
      simp[this,nv]
     | true =>
      have hr:=cF ht
      have habs:=Lj ht
      have hok:az (vN ((cb n f l a).2.1.natAbs:Int))=true:=zq (by omega) (by omega)
      simp only[habs]
      simpa using hok
    ·simp only[o]
     cases ht:mJ (cb n f l a) with
     | false =>
      have:=cT (cb n f l a)
      simp[this,nv]
     | true =>
      have hz:=rt e3
      have hok:az (vN ((pF (cb n f l a)).size:Int))=true:=zq (by omega) (by omega)
      rw[e5 ht]
      simp[hok]
end
def eZ (f:List ab) (l:List ah):ac:=let v:=cb f.length f l ((f.length:Int) - 1); if v.1=0 then vN 0 else v
def MK (f:List ab) (l:List ah):ac:=if ef f=true then(if lj l=true then eZ f l else vE 3) else vE 3
section
variable {f:List ab} {l:List ah} (hl:l.length≤10000000) (hvs : ∀ c∈l,c.2.1.2.2.1.size≤9223372036854775807) (hf:f.length≤10000000) (hs : ∀ x∈f,x.2.2.1.2.2.1.size≤9223372036854775807) (hkl : ∀ x∈f,x.2.2.2.2.2.1.length≤10000000)
include hl hvs hf hs hkl
theorem O3 (h:lj l=true):l.length≤1000:=by
 unfold lj at h
 simp only[ag_,ai_] at h
 omega
theorem YJ (h1:ef f=true) (h2:lj l=true):fm f ((f.length:Int) - 1) l=some ((cb f.length f l ((f.length:Int) - 1),()),())∧gq f ((f.length:Int) - 1) l=some ((cb f.length f l ((f.length:Int) - 1),()),())∧az (cb f.length f l ((f.length:Int) - 1))=true:=by
 have hb:cu (f.length:Int) 1 60=true:=by
  unfold ef at h1
  simp only[ag_] at h1
  exact h1.1
 have:=bm.1 hb
 exact Se (O3 hl hvs hf hs hkl h2) hf (jT h1) (mL h2) f.length _ (by omega) (by omega) (by omega)
theorem Sf (h1:ef f=true) (h2:lj l=true):gq f ((f.length:Int) - 1) l=some ((cb f.length f l ((f.length:Int) - 1),()),())∧az (cb f.length f l ((f.length:Int) - 1))=true:=by
 have hb:cu (f.length:Int) 1 60=true:=by
  unfold ef at h1
  simp only[ag_] at h1
  exact h1.1
 have:=bm.1 hb
 exact O2 (O3 hl hvs hf hs hkl h2) hf (jT h1) (mL h2) f.length _ (by omega) (by omega) (by omega)
theorem O4:tT f l=some ((MK f l,()),()):=by
 rw[Yz,lF hf hs hkl,ab_]
 unfold MK
 cases h1:ef f with
 | false=>simp[dQ]
 | true =>
  rw[OT hl hvs,ab_]
  cases h2:lj l with
  | false=>simp[dQ]
  | true =>
   obtain⟨e1,e2,e3⟩:=YJ hl hvs hf hs hkl h1 h2
   rw[fW (by omega) (by omega),e1]
   unfold eZ
   have hb:bnd 0=vN 0:=by decide
   by_cases h0:(cb f.length f l ((f.length:Int) - 1)).1=0 <;> simp[h0,kX,hb]
theorem O5 (h1:ef f=true) (h2:lj l=true):tS f l=some ((eZ f l,()),()):=by
 obtain⟨e2,e3⟩:=Sf hl hvs hf hs hkl h1 h2
 rw[Yt,fW (by omega) (by omega),e2]
 unfold eZ
 by_cases h0:(cb f.length f l ((f.length:Int) - 1)).1=0 <;> simp[h0,iv]
end
def gK (c:Nat):aj:=if c≤26 then [UInt8.ofNat (64+c)] else [65,UInt8.ofNat (38+c)]
theorem Wz : ∀ c:Fin 53,1≤c.val→c.val≤26→strOfNums ([(IntKind.u8.wrap (he_ hf_ ((he_ hf_ (65+(c.val:Int))) - 1)))]:List Int)=ba (gK c.val):=by decide +kernel
theorem WA : ∀ c:Fin 53,1≤c.val → ¬c.val≤26→strOfNums ([(IntKind.u8.wrap (he_ hf_ ((he_ hf_ (65+(he_ hf_ (dw_ (he_ hf_ ((c.val:Int) - 1)) 26)))) - 1))),(IntKind.u8.wrap (he_ hf_ (65+(fp_ (he_ hf_ ((c.val:Int) - 1)) 26))))]:List Int)=ba (gK c.val):=by decide +kernel
theorem WB : ∀ c:Fin 53,1≤c.val→strOfNums ([(IntKind.u8.wrap (he_ hf_ (65+(fp_ (he_ hf_ ((c.val:Int) - 1)) 26))))]:List Int)=ba (if c.val≤26 then gK c.val else(gK c.val).drop 1):=by decide +kernel
theorem WC : ∀ c:Fin 53,1≤c.val→IntKind.i64.wrap (dw_ (he_ hf_ ((c.val:Int) - 1)) 26)=if c.val≤26 then 0 else 1:=by decide +kernel
theorem E6 {c:Nat} (h1:1≤c) (h2:c≤52):rn (c:Int)=some ((ba (gK c),()),()):=by
 rw[QL,gu]
 simp only[ab_]
 rw[show cu (c:Int) 1 52=true from bm.2 ⟨by omega,by omega⟩]
 simp only[bc_,ak_,av_]
 by_cases h:c≤26
 ·rw[aJ (by omega),Wz ⟨c,by omega⟩ h1 h]
 ·rw[aE (by omega),WA ⟨c,by omega⟩ h1 h]
theorem rz (c:Nat):1≤(gK c).length∧(gK c).length≤2:=by
 unfold gK
 split <;> simp
theorem E7 {c:Nat} (h1:1≤c) (h2:c≤52):u6 (c:Int)=some ((ba (gK c),()),()):=by
 have k1:=WB ⟨c,by omega⟩ h1
 have k2:=WC ⟨c,by omega⟩ h1
 have kl:=rz c
 rw[Qy,kf]
 simp only[ab_]
 rw[show cu (c:Int) 1 52=true from bm.2 ⟨by omega,by omega⟩]
 simp only[bc_,ak_,av_]
 simp only at k1 k2
 rw[nq,aJ (by omega),k1,k2]
 by_cases h:c≤26
 ·rw[ae_ h,ae_ h,bT (by simp only[bl_]; omega),nq,aE (by decide),bv_]
 ·rw[ac_ h,ac_ h,bT (by simp only[bl_,dp_]; omega),nq,aJ (by decide),bv_]
  have k3':strOfNums ([(IntKind.u8.wrap (he_ hf_ (65+(fp_ (he_ hf_ ((1:Int) - 1)) 26))))]:List Int)=ba [65]:=by decide +kernel
  have k4':IntKind.i64.wrap (dw_ (he_ hf_ ((1:Int) - 1)) 26)=0:=by decide +kernel
  rw[k3',k4',bT (by simp only[aj_,bl_,dp_]; omega),nq,aE (by decide)]
  congr 3
  unfold gK
  rw[ac_ h]
  rfl
theorem F9 {P:aa_→Int→Option ((Int×Unit)×Unit)} {C:Int→Option ((aa_×Unit)×Unit)}
  (hP : ∀ x n,P x n=if decide (n≤52)=true then(C n).bind fun z1=>(if(ah_ z1.1.1 == ah_ x)=true then some ((n,()),()) else P x (he_ hf_ (n+1))) else some ((0,()),()))
  (hC : ∀ c:Nat,1≤c→c≤52→C (c:Int)=some ((ba (gK c),()),())) (w:aj) : ∀ k n:Nat,n+k=53→1≤n→P (ba w) (n:Int)=some ((((((List.range' n k).find? fun m=>decide (gK m=w)).getD 0:Nat):Int),()),())
 | 0,n,h,_=>by
  rw[hP,aE (by omega)]
  rfl
 | k+1,n,h,h1=>by
  rw[hP,aJ (by omega),hC n h1 (by omega)]
  simp only[ab_,dK,List.range'_succ,List.find?_cons]
  by_cases he:gK n=w
  ·simp[he]
  ·rw[ac_ (by simpa using he),wr (by omega) (by omega)]
   simp only[he,decide_false]
   exact F9 hP hC w k (n+1) (by omega) (by omega)
def ll (w:aj):Nat:=((List.range' 1 52).find? fun m=>decide (gK m=w)).getD 0
theorem Q2 (w:aj):FL (ba w)=some ((((ll w:Nat):Int),()),()):=by
 rw[QM]
 exact F9 (fun x n=>Jx) (fun c h1 h2=>E6 h1 h2) w 52 1 rfl (aq_ _)
theorem Q3 (w:aj):rm (ba w)=some ((((ll w:Nat):Int),()),()):=by
 rw[QD]
 exact F9 (fun x n=>Jw) (fun c h1 h2=>E7 h1 h2) w 52 1 rfl (aq_ _)
theorem H7 : ∀ m:Fin 53,1≤m.val→ll (gK m.val)=m.val:=by decide +kernel
theorem WD {w:aj} (h:1≤ll w):ll w≤52∧gK (ll w)=w:=by
 unfold ll at h ⊢
 cases hf:(List.range' 1 52).find? fun m=>decide (gK m=w) with
 | none=>rw[hf] at h; simp at h
 | some m =>
  have h1:=List.find?_some hf
  have h2:=List.mem_of_find?_eq_some hf
  rw[List.mem_range'_1] at h2
  simp only[Option.getD_some]
  exact⟨by omega,by simpa using h1⟩
def qD (b:Bool):aj:=if b=true then [36] else []
def tK (c r:Nat) (fc fr:Bool):aj:=qD fc++(gK c++(qD fr++az_ r))
def fp (p:bX):aj:=tK p.1.1.toNat p.1.2.1.toNat p.2.1 p.2.2.1
theorem s5 {r:am}:bM r=true↔(1≤r.1∧r.1≤52)∧1≤r.2.1∧r.2.1≤99:=by
 unfold bM
 rw[ag_,bm,bm]
theorem uf {r:Nat} (h:r≤99):(az_ r).length≤2:=HR 1 r (by omega)
theorem oG (p:bX):ni p=some ((if bM p.1=true then ba (fp p) else ba [],()),()):=by
 rw[Mo,pD]
 simp only[ab_]
 cases hr:bM p.1 with
 | false=>rfl
 | true =>
  simp only[bc_,ak_,av_,ba_]
  obtain⟨⟨c,r,u⟩,fc,fr,u'⟩:=p
  obtain⟨⟨h1,h2⟩,h3,h4⟩:=s5.1 hr
  simp only at h1 h2 h3 h4 ⊢
  obtain⟨c,rfl⟩ : ∃ n:Nat,c=n:=⟨c.toNat,by omega⟩
  obtain⟨r,rfl⟩ : ∃ n:Nat,r=n:=⟨r.toNat,by omega⟩
  have kc:=rz c
  have kr:=uf (r:=r) (by omega)
  have e1:rn (c:Int)=some ((ba (gK c),()),()):=E6 (by omega) (by omega)
  have e2:ld (r:Int)=some ((ba (az_ r),()),()):=by rw[xI (by omega) (by omega),mK]
  unfold fp tK
  simp only[ca_]
  cases fc <;> cases fr <;> simp only[e1,e2,ab_,ba_,av_,ak_,qD]
  all_goals
   repeat rw[bT (by first | omega | (simp only[af_,aj_,bl_]; omega))]
   simp
theorem oH (p:bX):dd p=some ((if bM p.1=true then ba (fp p) else ba [],()),()):=by
 rw[L6,kW]
 simp only[ab_]
 cases hr:bM p.1 with
 | false=>rfl
 | true =>
  simp only[bc_,ak_,av_,ba_]
  obtain⟨⟨c,r,u⟩,fc,fr,u'⟩:=p
  obtain⟨⟨h1,h2⟩,h3,h4⟩:=s5.1 hr
  simp only at h1 h2 h3 h4 ⊢
  obtain⟨c,rfl⟩ : ∃ n:Nat,c=n:=⟨c.toNat,by omega⟩
  obtain⟨r,rfl⟩ : ∃ n:Nat,r=n:=⟨r.toNat,by omega⟩
  have kc:=rz c
  have kr:=uf (r:=r) (by omega)
  have e1:u6 (c:Int)=some ((ba (gK c),()),()):=E7 (by omega) (by omega)
  have e2:cn (r:Int)=some ((ba (az_ r),()),()):=by rw[C6 (by omega) (by omega),mK]
  unfold fp tK
  simp only[ca_]
  cases fc <;> cases fr <;> simp only[e1,e2,ab_,ba_,av_,ak_,qD]
  all_goals
   repeat rw[bT (by first | omega | (simp only[af_,aj_,bl_]; omega))]
   simp
theorem E8 {w:aj} (hw:w.length≤18) : ∀(ys pre:aj),w=pre++ys→pre.all dw=true→pz (ba w) (bS 0 pre:Nat) (pre.length:Int)=some ((if ys.all dw=true then((bS 0 w:Nat):Int) else 0,ys.all dw,()),())
 | [],pre,h,hp=>by
  rw[bv_] at h
  subst h
  rw[CX,aE (by rw[aK]; omega)]
  rfl
 | y :: ys,pre,h,hp=>by
  have hl:pre.length < w.length:=by rw[h]; simp
  rw[CX,aJ (by rw[aK]; omega),lG h]
  by_cases h1:y.toNat < 48
  ·have hd:dw y=false:=by simp[dw]; omega
   rw[aJ (by omega)]
   simp[hd]
  ·rw[aE (by omega),lG h]
   by_cases h2:57 < y.toNat
   ·have hd:dw y=false:=by simp[dw]; omega
    rw[aJ (by omega)]
    simp[hd]
   ·have hd:dw y=true:=by simp[dw]; omega
    rw[aE (by omega),lG h]
    have hv:=D2 pre 0 hp
    have hv2:10 ^ pre.length≤10 ^ 17:=fs_ (by decide) (by omega)
    have hv3:bS 0 pre < 100000000000000000:=by
     rw[Nat.zero_add,Nat.one_mul] at hv
     exact cv_ hv hv2
    clear hv hv2
    have e1:IntKind.u8.wrap ((y.toNat:Int) - 48)=((y.toNat - 48:Nat):Int):=by rw[wr8 (by omega) (by omega)]; omega
    have w1:IntKind.i64.wrap (((bS 0 pre:Nat):Int)*10)=((bS 0 pre:Nat):Int)*10:=wr (by omega) (by omega)
    have w2:IntKind.i64.wrap ((y.toNat - 48:Nat):Int)=((y.toNat - 48:Nat):Int):=wr (by omega) (by omega)
    rw[e1,w1,w2,wr (n:=((bS 0 pre:Nat):Int)*10+((y.toNat - 48:Nat):Int)) (by omega) (by omega),wr (n:=(pre.length:Int)+1) (by omega) (by omega)]
    have e2:((bS 0 pre:Nat):Int)*10+((y.toNat - 48:Nat):Int)=((bS 0 (pre++[y]):Nat):Int):=by rw[Dd]; omega
    have e3:(pre.length:Int)+1=((pre++[y]).length:Int):=by simp
    rw[e2,e3,E8 hw ys (pre++[y]) (by rw[h]; simp) (by simp[hp,hd])]
    simp[hd]
def c8 (w:aj) (m:Nat):Bool:=ki w && decide (w.length≤m)
theorem Dn (w:aj) {m:Nat} (hm:m≤18):dr (ba w) (m:Int)=some ((if c8 w m=true then((bS 0 w:Nat):Int) else 0,c8 w m,()),()):=by
 rw[V3,aK]
 cases w with
 | nil =>
  rw[aJ (by simp)]
  rfl
 | cons y ys =>
  have hlen:(y :: ys:aj).length=ys.length+1:=rfl
  rw[aE (by omega)]
  by_cases h:(y :: ys:aj).length≤m
  ·have hle:decide ((y :: ys:aj).length≤m)=true:=bb_ h
   rw[aE (by omega),qA]
   have hl:=E8 (w:=y :: ys) (by omega) (y :: ys) [] rfl rfl
   have hl:pz (ba (y :: ys)) 0 0=_:=hl
   have h0n:decide (1≤(y :: ys:aj).length)=true:=bb_ (by omega)
   by_cases h0:y=48
   ·subst h0
    rw[ae_ (by rfl)]
    by_cases h1:ys.length=0
    ·rw[aE (by omega),hl]
     have h1':decide ((48 :: ys:aj).length=1)=true:=bb_ (by omega)
     have e:c8 (48 :: ys) m=(48 :: ys:aj).all dw:=by
      unfold c8 ki
      rw[hle,h0n,h1']
      simp
     rw[e]
    ·rw[aJ (by omega)]
     have h1':decide ((48 :: ys:aj).length=1)=false:=bf_ (by omega)
     have e:c8 (48 :: ys) m=false:=by
      unfold c8 ki
      rw[h1']
      simp
     rw[e]
     rfl
   ·have h0' : ¬((y.toNat:Int) == 48)=true:=by
     simp only[bx_]
     intro e
     apply h0
     apply UInt8.toNat_inj.1
     show y.toNat=48
     omega
    rw[ac_ h0',hl]
    have e:c8 (y :: ys) m=(y :: ys:aj).all dw:=by
     have h2:decide ((y :: ys:aj).head? = some 48)=false:=bf_ (by simpa using h0)
     unfold c8 ki
     rw[hle,h0n,h2]
     simp
    rw[e]
  ·rw[aJ (by omega)]
   have e:c8 (y :: ys) m=false:=by
    unfold c8
    rw[bf_ h]
    simp
   rw[e]
   rfl
theorem Ga {w:aj} {m:Nat} (h:c8 w m=true):az_ (bS 0 w)=w∧w.length≤m:=by
 unfold c8 at h
 rw[ag_,ai_] at h
 exact⟨(Sb w h.1).1,h.2⟩
theorem Dp {u m:Nat} (h:(az_ u).length≤m):c8 (az_ u) m=true:=by
 unfold c8
 rw[rx]
 simpa using h
theorem xL {w:aj} (hw:w.length≤281474976710656):i7 (ba w) 10 64=some (((cD w).1,(cD w).2,()),()):=by
 rw[BQ]
 show(if(ba w).size≤281474976710656∧(10:Int)=10∧(64:Int)=64 then some (((cD (lb (ba w))).1,(cD (lb (ba w))).2,()),()) else none)=_
 rw[ae_ ⟨by rw[aK]; exact hw,rfl,rfl⟩,dl]
theorem aap : ∀ r:Fin 10,(cD [UInt8.ofNat (48+r.val)]).1=(r.val:Int):=by decide +kernel
theorem aaq : ∀ r:Fin 100,(cD [UInt8.ofNat (48+r.val / 10),UInt8.ofNat (48+r.val % 10)]).1=(r.val:Int):=by decide +kernel
theorem WE {r:Nat} (h:r < 100):(cD (az_ r)).1=(r:Int):=by
 by_cases h1:r < 10
 ·rw[Lib.decDigits_one h1]
  exact aap ⟨r,h1⟩
 ·rw[Lib.decDigits_two h1 h]
  exact aaq ⟨r,h⟩
theorem abC:(fun c=>([65,66,67,68,69,70,71,72,73,74,75,76,77,78,79,80,81,82,83,84,85,86,87,88,89,90]:aj).contains c)=eQ:=funext fun c=>qB (p:=fun c=>([65,66,67,68,69,70,71,72,73,74,75,76,77,78,79,80,81,82,83,84,85,86,87,88,89,90]:aj).contains c=eQ c) (by decide +kernel) c
def cC (w:aj):Bool×aj:=(([36]:aj).isPrefixOf w,if([36]:aj).isPrefixOf w=true then w.drop 1 else w)
theorem Ll (w:aj):qD (cC w).1++(cC w).2=w:=by
 unfold cC qD
 cases w with
 | nil=>rfl
 | cons c l =>
  by_cases h:c=36
  ·subst h
   simp
  ·have:([36]:aj).isPrefixOf (c :: l)=false:=by rw[gY]; simp[h]
   simp[this]
theorem O6 {b:Bool} {w:aj} (h:w.head? ≠ some 36):cC (qD b++w)=(b,w):=by
 unfold cC qD
 cases b with
 | true=>simp
 | false =>
  cases w with
  | nil=>rfl
  | cons c l =>
   have h':c≠36:=fun e=>h (by rw[e]; rfl)
   have:([36]:aj).isPrefixOf (c :: l)=false:=by rw[gY]; simp[h']
   simp[this]
theorem O7 (w:aj):(cC w).2.length≤w.length:=by
 unfold cC
 split <;> simp
def qE (w:aj):bX:=((((ll ((cC w).2.takeWhile eQ):Nat):Int),(cD (cC ((cC w).2.dropWhile eQ)).2).1,()),(cC w).1,(cC ((cC w).2.dropWhile eQ)).1,())
theorem Lm (p:UInt8→Bool) (l:aj):(l.dropWhile p).length≤l.length:=(Dc p l).2.2
theorem abD {w:aj} (hw:w.length≤9223372036854775807):cH (ba w) (⟨#[36]⟩:aa_)=some ((ba (cC w).2,(cC w).1,()),()):=sZ w [36] hw
theorem O8 {w:aj} (hw:w.length≤281474976710656) :
  iu (ba w)=some ((if bM (qE w).1=true∧fp (qE w)=w then qE w else p0,decide (bM (qE w).1=true∧fp (qE w)=w),()),()):=by
 have l1:=O7 w
 have l2:=Lm eQ (cC w).2
 have l3:=O7 ((cC w).2.dropWhile eQ)
 obtain⟨d1,d2,d3⟩:=Dc eQ (cC w).2
 rw[Mp,abD (by omega)]
 simp only[ab_]
 rw[xK _ _ (by decide +kernel),abC]
 simp only[ab_,aK]
 rw[wr (by omega) (by omega),show((cC w).2.length:Int) - (((cC w).2.dropWhile eQ).length:Int)=(((cC w).2.length - ((cC w).2.dropWhile eQ).length:Nat):Int) by omega,H0 (by omega),d1,Q2]
 simp only[ab_]
 rw[ge (by omega),d2,abD (by omega)]
 simp only[ab_]
 rw[xL (by omega)]
 simp only[ab_,pD,oG]
 have e:qE w=((((ll ((cC w).2.takeWhile eQ):Nat):Int),(cD (cC ((cC w).2.dropWhile eQ)).2).1,()),(cC w).1,(cC ((cC w).2.dropWhile eQ)).1,()):=rfl
 rw[←e]
 have e1:(((ll ((cC w).2.takeWhile eQ):Nat):Int),(cD (cC ((cC w).2.dropWhile eQ)).2).1,())=(qE w).1:=rfl
 rw[e1]
 cases hr:bM (qE w).1 with
 | false=>simp
 | true =>
  simp only[bc_,ak_,av_,ba_,dK,true_and]
  by_cases hp:fp (qE w)=w
  ·simp[hp]
  ·simp[hp]
theorem JF : ∀ c:Fin 53,1≤c.val→(gK c.val).all eQ=true:=by decide +kernel
theorem acr {y:UInt8} (h:eQ y=true):y≠36:=by
 rintro rfl
 exact absurd h (by decide)
theorem ZO {y:UInt8} (h:dw y=true):y≠36∧eQ y=false:=by
 refine⟨?_,?_⟩
 ·rintro rfl
  exact absurd h (by decide)
 ·simp only[dw,eQ,ag_,ai_,Bool.and_eq_false_iff,decide_eq_false_iff_not] at h ⊢
  omega
theorem H8 (u:Nat) : ∃ y l,az_ u=y :: l∧dw y=true:=by
 have h:=rx u
 unfold ki at h
 simp only[ag_,ai_] at h
 cases hd:az_ u with
 | nil=>rw[hd] at h; simp at h
 | cons y l =>
  rw[hd] at h
  refine⟨y,l,rfl,?_⟩
  have:=h.1.1
  simp only[cb_,ag_] at this
  exact this.1
theorem aar {c:Nat} (h1:1≤c) (h2:c≤52) (x:aj):(gK c++x).head? ≠ some 36:=by
 have h:=JF ⟨c,by omega⟩ h1
 have hl:=rz c
 simp only at h
 cases hc:gK c with
 | nil=>rw[hc] at hl; simp at hl
 | cons y l =>
  rw[hc] at h
  simp only[cb_,ag_] at h
  intro e
  simp only[List.cons_append,dg_,bd_] at e
  exact acr h.1 e
theorem O9 {c r:Nat} (h1:1≤c) (h2:c≤52) (fc fr:Bool):(cC (tK c r fc fr)).1=fc∧(cC (tK c r fc fr)).2.takeWhile eQ=gK c∧(cC ((cC (tK c r fc fr)).2.dropWhile eQ)).1=fr∧(cC ((cC (tK c r fc fr)).2.dropWhile eQ)).2=az_ r:=by
 unfold tK
 rw[O6 (aar h1 h2 _)]
 have hu:=List.all_eq_true.1 (JF ⟨c,by omega⟩ h1)
 simp only at hu ⊢
 obtain⟨y,l,hy,hd⟩:=H8 r
 have hn : ∃ z m,qD fr++az_ r=z :: m∧eQ z=false:=by
  cases fr with
  | true=>exact⟨36,_,rfl,by decide⟩
  | false=>exact⟨y,l,hy,(ZO hd).2⟩
 obtain⟨z,m,hz,hzu⟩:=hn
 have ht:(qD fr++az_ r).takeWhile eQ=[]:=by rw[hz]; simp[hzu]
 have hdr:(qD fr++az_ r).dropWhile eQ=qD fr++az_ r:=by rw[hz]; simp[hzu]
 rw[List.takeWhile_append_of_pos hu,List.dropWhile_append_of_pos hu,ht,hdr,bv_,O6 (by rw[hy]; simp only[dg_,ne_eq,bd_]; exact(ZO hd).1)]
 simp
theorem w7 {p:bX} (h:bM p.1=true) : ∃(c r:Nat) (fc fr:Bool),p=(((c:Int),(r:Int),()),fc,fr,())∧1≤c∧c≤52∧1≤r∧r≤99:=by
 obtain⟨⟨c,r,u⟩,fc,fr,u'⟩:=p
 obtain⟨⟨h1,h2⟩,h3,h4⟩:=s5.1 h
 simp only at h1 h2 h3 h4
 refine⟨c.toNat,r.toNat,fc,fr,?_,by omega,by omega,by omega,by omega⟩
 rw[cp_ (by omega),cp_ (by omega)]
theorem aas {p:bX} (h:bM p.1=true):qE (fp p)=p:=by
 obtain⟨c,r,fc,fr,rfl,h1,h2,h3,h4⟩:=w7 h
 obtain⟨e1,e2,e3,e4⟩:=O9 (r:=r) h1 h2 fc fr
 show qE (tK c r fc fr)=_
 unfold qE
 rw[e1,e2,e3,e4,H7 ⟨c,by omega⟩ h1,WE (by omega)]
def qF (fc:Bool) (ls w2:aj):bX×Bool :=
 if c8 (cC w2).2 2=true∧bM (((ll ls:Nat):Int),((bS 0 (cC w2).2:Nat):Int),())=true then(((((ll ls:Nat):Int),((bS 0 (cC w2).2:Nat):Int),()),fc,(cC w2).1,()),true) else(p0,false)
def cU (w:aj):bX×Bool:=qF (cC w).1 ((cC w).2.takeWhile eQ) ((cC w).2.dropWhile eQ)
theorem UC {fc:Bool} {ls w2:aj} {f1:Bool} {w3:aj} (h:cC w2=(f1,w3)) :
  ((dr (ba w3) 2).bind fun z2=>(if(!z2.1.2.1)=true then(some ((((0,0,()),false,false,()),false,()),(()))) else((dA (((ll ls:Nat):Int),z2.1.1,())).bind fun z3=>(if(!z3.1.1)=true then(some ((((0,0,()),false,false,()),false,()),(()))) else(some (((((((ll ls:Nat):Int),z2.1.1,()),fc,f1,()):bX),true,()),(())))))))=some (((qF fc ls w2).1,(qF fc ls w2).2,()),()):=by
 have e:=Dn w3 (m:=2) (by decide)
 have e:dr (ba w3) 2=_:=e
 rw[e]
 simp only[ab_,kW]
 unfold qF
 rw[h]
 cases hr:c8 w3 2 with
 | false=>simp
 | true =>
  simp only[bc_,ak_,av_,ba_,true_and]
  cases ho:bM (((ll ls:Nat):Int),((bS 0 w3:Nat):Int),()) with
  | false=>simp
  | true=>simp
theorem plK {fc:Bool} {w1 pre ys:aj} (h:w1=pre++ys) (hl:w1.length≤9223372036854775807) :
  (Ez (ba w1) (pre.length:Int) fun y7=>((rm y7).bind fun z8=>(jv (ba w1) (pre.length:Int) fun y8=>(if(decide ((ByteArray.size y8:Int) > 0))=true then(eM y8 0 fun y9=>(if(y9 == 36)=true then(jv y8 1 fun y10=>((dr y10 2).bind fun z9=>(if(!z9.1.2.1)=true then(some ((((0,0,()),false,false,()),false,()),(()))) else((dA (z8.1.1,z9.1.1,())).bind fun z10=>(if(!z10.1.1)=true then(some ((((0,0,()),false,false,()),false,()),(()))) else(some ((((z8.1.1,z9.1.1,()),fc,true,()),true,()),(())))))))) else((dr y8 2).bind fun z11=>(if(!z11.1.2.1)=true then(some ((((0,0,()),false,false,()),false,()),(()))) else((dA (z8.1.1,z11.1.1,())).bind fun z12=>(if(!z12.1.1)=true then(some ((((0,0,()),false,false,()),false,()),(()))) else(some ((((z8.1.1,z11.1.1,()),fc,false,()),true,()),(()))))))))) else((dr y8 2).bind fun z13=>(if(!z13.1.2.1)=true then(some ((((0,0,()),false,false,()),false,()),(()))) else((dA (z8.1.1,z13.1.1,())).bind fun z14=>(if(!z14.1.1)=true then(some ((((0,0,()),false,false,()),false,()),(()))) else(some ((((z8.1.1,z13.1.1,()),fc,false,()),true,()),(())))))))))))
   = (some (((qF fc pre ys).1,(qF fc pre ys).2,()),()):Option ((bX×Bool×Unit)×Unit)):=by
 subst h
 have hle:pre.length≤(pre++ys).length:=by simp
 rw[H0 hle,List.take_left' rfl,Q3]
 simp only[ab_]
 rw[ge hle,List.drop_left' rfl,aK]
 cases ys with
 | nil =>
  rw[aE (by simp)]
  exact UC rfl
 | cons y l =>
  rw[aJ (by simp),qA]
  by_cases hy:y=36
  ·subst hy
   rw[ae_ (by rfl),show(1:Int)=((1:Nat):Int) from rfl,ge (by simp)]
   exact UC (by unfold cC; rw[gY]; simp)
  ·have h0' : ¬((y.toNat:Int) == 36)=true:=by
    simp only[bx_]
    intro e
    apply hy
    apply UInt8.toNat_inj.1
    show y.toNat=36
    omega
   rw[ac_ h0']
   exact UC (by unfold cC; rw[gY]; simp[hy])
theorem ma {fc:Bool} {w1:aj} (hl:w1.length≤9223372036854775806) : ∀(ys pre:aj),w1=pre++ys→jF (ba w1) (pre.length:Int) 0 0 false false 0 0 fc false=some (((qF fc (pre++ys.takeWhile eQ) (ys.dropWhile eQ)).1,(qF fc (pre++ys.takeWhile eQ) (ys.dropWhile eQ)).2,()),())
 | [],pre,h=>by
  have hlen:w1.length=pre.length:=by rw[h]; simp
  rw[vr,aE (by rw[aK]; omega)]
  simpa using plK (fc:=fc) h (by omega)
 | y :: ys,pre,h=>by
  have hlen:pre.length < w1.length:=by rw[h]; simp
  rw[vr,aJ (by rw[aK]; omega),lG h]
  cases hu:eQ y with
  | true =>
   have hu':65≤y.toNat∧y.toNat≤90:=by simpa[eQ] using hu
   rw[aJ (by omega),lG h,aJ (by omega),wr (by omega) (by omega),show(pre.length:Int)+1=((pre++[y]).length:Int) by simp,ma hl ys (pre++[y]) (by rw[h]; simp)]
   simp[hu]
  | false =>
   have hk:=plK (fc:=fc) h (by omega)
   rw[List.takeWhile_cons_of_neg (by simp[hu]),List.dropWhile_cons_of_neg (by simp[hu]),bv_]
   by_cases h1:65≤y.toNat
   ·have h2 : ¬y.toNat≤90:=by
     intro h2
     simp[eQ,h1,h2] at hu
    rw[aJ (by omega),lG h,aE (by omega)]
    exact hk
   ·rw[aE (by omega)]
    exact hk
theorem tA {w:aj} (hw:w.length≤281474976710656):nf (ba w)=some (((cU w).1,(cU w).2,()),()):=by
 rw[Mc,aK]
 cases w with
 | nil =>
  rw[aE (by simp)]
  exact ma (fc:=false) (w1:=[]) (by simp) [] [] rfl
 | cons y l =>
  rw[aj_] at hw
  rw[aJ (by simp),qA]
  by_cases hy:y=36
  ·subst hy
   rw[ae_ (by rfl),show(1:Int)=((1:Nat):Int) from rfl,ge (by simp)]
   have:=ma (fc:=true) (w1:=l) (by omega) l [] rfl
   have e:cC (36 :: l)=(true,l):=by unfold cC; rw[gY]; simp
   unfold cU
   rw[e]
   exact this
  ·have h0' : ¬((y.toNat:Int) == 36)=true:=by
    simp only[bx_]
    intro e
    apply hy
    apply UInt8.toNat_inj.1
    show y.toNat=36
    omega
   rw[ac_ h0']
   have:=ma (fc:=false) (w1:=y :: l) (by rw[aj_]; omega) (y :: l) [] rfl
   have e:cC (y :: l)=(false,y :: l):=by unfold cC; rw[gY]; simp[hy]
   unfold cU
   rw[e]
   exact this
theorem aat {w:aj} (h:(cU w).2=true):bM (cU w).1.1=true∧fp (cU w).1=w:=by
 unfold cU qF at h ⊢
 split at h
 ·rename_i hc
  rw[ae_ hc]
  refine⟨hc.2,?_⟩
  obtain⟨⟨k1,k2⟩,k3,k4⟩:=s5.1 hc.2
  simp only at k1 k2 k3 k4
  obtain⟨c1,c2⟩:=WD (w:=(cC w).2.takeWhile eQ) (by omega)
  obtain⟨r1,r2⟩:=Ga hc.1
  unfold fp tK
  simp only[ca_]
  rw[c2,r1,Ll,List.takeWhile_append_dropWhile,Ll]
 ·cases h
theorem pG {p:bX} (h:bM p.1=true):cU (fp p)=(p,true):=by
 obtain⟨c,r,fc,fr,rfl,h1,h2,h3,h4⟩:=w7 h
 obtain⟨e1,e2,e3,e4⟩:=O9 (r:=r) h1 h2 fc fr
 show cU (tK c r fc fr)=_
 unfold cU qF
 rw[e1,e2,e3,e4,H7 ⟨c,by omega⟩ h1,ru,ae_ ⟨Dp (uf h4),h⟩]
theorem aau {w:aj} (h:(cU w).2=false):cU w=(p0,false):=by
 unfold cU qF at h ⊢
 split at h
 ·cases h
 ·rename_i hc
  rw[ac_ hc]
theorem oI {w:aj} (hw:w.length≤281474976710656):iu (ba w)=some (((cU w).1,(cU w).2,()),()):=by
 rw[O8 hw]
 by_cases h:bM (qE w).1=true∧fp (qE w)=w
 ·have:=pG h.1
  rw[h.2] at this
  rw[ae_ h,bb_ h,this]
 ·rw[ac_ h,bf_ h]
  cases h2:(cU w).2 with
  | false=>rw[aau h2]
  | true =>
   obtain⟨k1,k2⟩:=aat h2
   refine absurd ?_ h
   have:=aas k1
   rw[k2] at this
   rw[this]
   exact⟨k1,k2⟩
def jr:aj:=[84,82,85,69]
def jV:aj:=[70,65,76,83,69]
def fx (w:aj):Int:=if cX 5=ba w then 5 else if cX 4=ba w then 4 else if cX 3=ba w then 3 else if cX 2=ba w then 2 else if cX 1=ba w then 1 else 0
theorem aav {w:aj} (h:fx w≠0):cX (fx w)=ba w∧1≤fx w∧fx w≤5:=by
 unfold fx at h ⊢
 split
 ·exact⟨‹_›,by decide,by decide⟩
 ·split
  ·exact⟨‹_›,by decide,by decide⟩
  ·split
   ·exact⟨‹_›,by decide,by decide⟩
   ·split
    ·exact⟨‹_›,by decide,by decide⟩
    ·split
     ·exact⟨‹_›,by decide,by decide⟩
     ·rename_i h1 h2 h3 h4 h5
      simp[h1,h2,h3,h4,h5] at h
theorem Lo : ∀ n:Fin 6,1≤n.val→fx (lb (cX (n.val:Int)))=(n.val:Int):=by decide +kernel
def w8 (w:aj):ac :=
 if w=[] then v0 else
 if w.head? = some 39 then vT (ba (w.drop 1)) else
 if w=jr then vB true else
 if w=jV then vB false else
 if w.head? = some 35 then(4,fx w,eS,()) else
 if w.head? = some 45 then(if c8 (w.drop 1) 16=true∧bS 0 (w.drop 1)≠0 then vN (-((bS 0 (w.drop 1):Nat):Int)) else(9,0,eS,())) else
 if c8 w 16=true then vN ((bS 0 w:Nat):Int) else(9,0,eS,())
def bo (w:aj):ac×Bool:=if az (w8 w)=true then(w8 w,true) else(v0,false)
theorem Sg {v:ac} (h:v.2.2.1.size≤9223372036854775807) {a b:Int} {c:aa_}:aY a b c v.1 v.2.1 v.2.2.1=some ((if az v=true then v else v0,az v,()),()):=by
 rw[Er,show(v.1,v.2.1,v.2.2.1,())=v from rfl,fA h]
 simp only[ab_]
 cases az v <;> rfl
theorem vO {w:aj} {n:Int} (h0:0≤n) (h1:n≤5) {a b e N:Int} {c f:aa_}:fo (ba w) n a b c e N f=fo (ba w) (n+1) a b c e (if cX n=ba w then n else N) f:=by
 rw[tI,aJ h1,ua h0 h1]
 simp only[ab_,sG,ai_]
 rw[wr (by omega) (by omega)]
 split <;> rfl
theorem abE {w:aj}:fo (ba w) 1 0 0 eS 4 0 eS=some ((if az (4,fx w,eS,())=true then(4,fx w,eS,()) else v0,az (4,fx w,eS,()),()),()):=by
 rw[vO (by decide) (by decide),vO (by decide) (by decide),vO (by decide) (by decide),vO (by decide) (by decide),vO (by decide) (by decide),tI,aE (by decide)]
 exact Sg (v:=(4,fx w,eS,())) (by show eS.size≤_; decide)
theorem YK {w:aj} (hw:w.length≤9223372036854775807) {y:UInt8} {l:aj} (h:w=y :: l) :
  (if((y.toNat:Int) == 45)=true then(jv (ba w) 1 fun y5=>((dr y5 16).bind fun z1=>(if(!z1.1.2.1)=true then(some (((0,0,(⟨#[]⟩:aa_),()),false,()),(()))) else(if((y.toNat:Int) == 45)=true then(if(z1.1.1 == 0)=true then(some (((0,0,(⟨#[]⟩:aa_),()),false,()),(()))) else(if((y.toNat:Int) == 45)=true then(aY 0 0 (⟨#[]⟩:aa_) 1 (he_ hf_ (0 - z1.1.1)) (⟨#[]⟩:aa_)) else(aY 0 0 (⟨#[]⟩:aa_) 1 z1.1.1 (⟨#[]⟩:aa_)))) else(if((y.toNat:Int) == 45)=true then(aY 0 0 (⟨#[]⟩:aa_) 1 (he_ hf_ (0 - z1.1.1)) (⟨#[]⟩:aa_)) else(aY 0 0 (⟨#[]⟩:aa_) 1 z1.1.1 (⟨#[]⟩:aa_)))))))
   else((dr (ba w) 16).bind fun z2=>(if(!z2.1.2.1)=true then(some (((0,0,(⟨#[]⟩:aa_),()),false,()),(()))) else(if((y.toNat:Int) == 45)=true then(if(z2.1.1 == 0)=true then(some (((0,0,(⟨#[]⟩:aa_),()),false,()),(()))) else(if((y.toNat:Int) == 45)=true then(aY 0 0 (⟨#[]⟩:aa_) 1 (he_ hf_ (0 - z2.1.1)) (⟨#[]⟩:aa_)) else(aY 0 0 (⟨#[]⟩:aa_) 1 z2.1.1 (⟨#[]⟩:aa_)))) else(if((y.toNat:Int) == 45)=true then(aY 0 0 (⟨#[]⟩:aa_) 1 (he_ hf_ (0 - z2.1.1)) (⟨#[]⟩:aa_)) else(aY 0 0 (⟨#[]⟩:aa_) 1 z2.1.1 (⟨#[]⟩:aa_)))))))
   = (let v:ac:=if w.head? = some 45 then(if c8 (w.drop 1) 16=true∧bS 0 (w.drop 1)≠0 then vN (-((bS 0 (w.drop 1):Nat):Int)) else(9,0,eS,())) else if c8 w 16=true then vN ((bS 0 w:Nat):Int) else(9,0,eS,())
    some ((if az v=true then v else v0,az v,()),())):=by
 have e9:az (9,0,eS,())=false:=by decide
 have hint : ∀ x:aj,dr (ba x) 16=_:=fun x=>Dn x (m:=16) (by decide)
 have hrange : ∀ x:aj,c8 x 16=true→bS 0 x < 10 ^ 16:=by
  intro x hx
  unfold c8 ki at hx
  simp only[ag_,ai_] at hx
  have:=D2 x 0 hx.1.1.1
  exact cv_ (by simpa using this) (fs_ (by decide) hx.2)
 subst h
 by_cases hy:y=45
 ·subst hy
  have e:(((45:UInt8).toNat:Int) == 45)=true:=rfl
  simp only[e,ba_,dg_,bu_,cu_]
  rw[show(1:Int)=((1:Nat):Int) from rfl,ge (by simp)]
  simp only[bu_,cu_,hint,ab_]
  cases hr:c8 l 16 with
  | false=>simp[e9]; rfl
  | true =>
   have:=hrange l hr
   by_cases h0:bS 0 l=0
   ·simp[h0,e9]; rfl
   ·have h0' : ¬(((bS 0 l:Nat):Int) == 0)=true:=by simp only[bx_]; omega
    simp only[bc_,ak_,av_,ba_,h0',ne_eq,h0,not_false_eq_true,and_self]
    rw[wr (by omega) (by omega),show(0:Int) - ((bS 0 l:Nat):Int) = -((bS 0 l:Nat):Int) by omega]
    exact Sg (v:=vN _) (by show eS.size≤_; decide)
 ·have e : ¬((y.toNat:Int) == 45)=true:=by
   simp only[bx_]
   intro e
   apply hy
   apply UInt8.toNat_inj.1
   show y.toNat=45
   omega
  have e2 : ¬(some y=some (45:UInt8)):=by simpa using hy
  simp only[e,av_,dg_,e2,hint,ab_]
  cases hr:c8 (y :: l) 16 with
  | false=>simp[e9]; rfl
  | true =>
   have:=hrange _ hr
   simp only[bc_,ak_,av_,ba_]
   exact Sg (v:=vN _) (by show eS.size≤_; decide)
theorem oJ {w:aj} (hw:w.length≤9223372036854775807):la (ba w)=some (((bo w).1,(bo w).2,()),()):=by
 have fC : ∀ v:ac,w8 w=v→some ((if az v=true then v else v0,az v,()),())=(some (((bo w).1,(bo w).2,()),()):Option ((ac×Bool×Unit)×Unit)):=by
  intro v hv
  unfold bo
  rw[hv]
  cases az v <;> rfl
 rw[Me]
 have e0:(ah_ (ba w) == ah_ (⟨#[]⟩:aa_))=decide (w=[]):=dK (b:=[])
 have e1:(ah_ (ba w) == ah_ (⟨#[84,82,85,69]⟩:aa_))=decide (w=jr):=dK (b:=jr)
 have e2:(ah_ (ba w) == ah_ (⟨#[70,65,76,83,69]⟩:aa_))=decide (w=jV):=dK (b:=jV)
 rw[e0,e1,e2]
 cases w with
 | nil =>
  rw[aJ rfl]
  exact fC v0 rfl
 | cons y l =>
  rw[aE (by simp)]
  simp only[qA]
  rw[F6 y 39 (n:=39) rfl,F6 y 35 (n:=35) rfl]
  have hv:=w8.eq_def (y :: l)
  rw[ac_ (by simp)] at hv
  by_cases h39:y=39
  ·rw[aJ h39,show(1:Int)=((1:Nat):Int) from rfl,ge (by simp)]
   rw[ae_ (by rw[h39]; rfl)] at hv
   rw[aj_] at hw
   exact(Sg (v:=vT (ba ((y :: l).drop 1))) (by show(ba _).size≤_; rw[aK]; simp; omega)).trans (fC _ hv)
  ·rw[aE h39]
   rw[ac_ (by simpa using h39)] at hv
   by_cases ht:(y :: l)=jr
   ·rw[ae_ ht] at hv
    rw[aJ ht,aJ ht,aJ ht]
    exact(Sg (v:=vB true) (by decide)).trans (fC _ hv)
   ·rw[ac_ ht] at hv
    rw[aE ht]
    by_cases hf:(y :: l)=jV
    ·rw[ae_ hf] at hv
     rw[aJ hf,aE ht]
     exact(Sg (v:=vB false) (by decide)).trans (fC _ hv)
    ·rw[ac_ hf] at hv
     rw[aE hf]
     by_cases h35:y=35
     ·rw[aJ h35]
      rw[ae_ (by rw[h35]; rfl)] at hv
      exact abE.trans (fC _ hv)
     ·rw[aE h35]
      rw[ac_ (by simpa using h35)] at hv
      exact(YK hw rfl).trans (fC _ hv)
theorem w9 {n:Int} (h:n < 0):di n=ba (45 :: az_ (-n).toNat):=by
 rw[wZ h,show -n=((-n).toNat:Int) by omega,mK,show(⟨#[45]⟩:aa_)=ba [45] from rfl,kN]
 congr 2
theorem zv {u:Nat}:az_ u≠[]∧(az_ u).head? ≠ some 39∧(az_ u).head? ≠ some 35∧(az_ u).head? ≠ some 45∧az_ u≠jr∧az_ u≠jV:=by
 obtain⟨y,l,hy,hd⟩:=H8 u
 rw[hy]
 have hn : ∀ c:UInt8,dw c=false→y≠c:=by
  rintro c hc rfl
  rw[hd] at hc
  cases hc
 refine⟨by simp,?_,?_,?_,?_,?_⟩
 ·simpa using hn 39 (by decide)
 ·simpa using hn 35 (by decide)
 ·simpa using hn 45 (by decide)
 ·intro e
  exact hn 84 (by decide) (fy_ e).1
 ·intro e
  exact hn 70 (by decide) (fy_ e).1
theorem UD {u:Nat} (h:u≤1000000000000000):(az_ u).length≤16:=HR 15 u (by omega)
theorem aaw {v:ac} (h:az v=true) (k:v.1≠2):v.2.2.1=eS:=by
 unfold az at h
 rw[ac_ k] at h
 simp only[ag_,ai_] at h
 exact h.1
theorem aax {v:ac} (h:az v=true) (k:v.1=0):v.2.1=0:=by
 unfold az at h
 rw[ac_ (by omega),ae_ k] at h
 simp only[ag_,ai_] at h
 exact h.2
theorem Si {v:ac} (h:az v=true) (k:v.1=2):v.2.1=0:=by
 unfold az at h
 rw[ae_ k] at h
 simp only[ag_,ai_] at h
 exact h.1
theorem sw {v:ac} (h:az v=true):v=v0∨(∃ n,v=vN n ∧ -1000000000000000≤n∧n≤1000000000000000)∨(∃ s,v=vT s)∨(∃ b,v=vB b) ∨ ∃ n:Fin 6,v=vE (n.val:Int)∧1≤n.val:=by
 obtain⟨k,n,s,u⟩:=v
 have hS:=fun hk=>aaw h hk
 rcases uc h with hk | hk | hk | hk | hk <;> simp only at hk <;> subst hk
 ·have h0:=aax h rfl
  have h1:=hS (by show(_:Int)≠2; omega)
  simp only at h0 h1
  subst h0; subst h1
  exact .inl rfl
 ·have h0:=rs h rfl
  have h1:=hS (by show(_:Int)≠2; omega)
  simp only at h0 h1
  subst h1
  exact .inr (.inl ⟨n,rfl,h0.1,h0.2⟩)
 ·have h0:=Si h rfl
  simp only at h0
  subst h0
  exact .inr (.inr (.inl ⟨s,rfl⟩))
 ·have h0:=zn h rfl
  have h1:=hS (by show(_:Int)≠2; omega)
  simp only at h0 h1
  subst h1
  refine .inr (.inr (.inr (.inl ⟨decide (n=1),?_⟩)))
  have:n=0∨n=1:=by omega
  rcases this with rfl | rfl <;> rfl
 ·have h0:=ut h rfl
  have h1:=hS (by show(_:Int)≠2; omega)
  simp only at h0 h1
  subst h1
  refine .inr (.inr (.inr (.inr ⟨⟨n.toNat,by omega⟩,?_,by simp; omega⟩)))
  show _=vE ((n.toNat:Nat):Int)
  rw[cp_ (by omega)]
  rfl
theorem YL {v:ac} (h:az v=true):w8 (lb (bG v))=v:=by
 rcases sw h with rfl | ⟨n,rfl,h0,h1⟩ | ⟨s,rfl⟩ | ⟨b,rfl⟩ | ⟨n,rfl,h0⟩
 ·rfl
 ·have e:bG (vN n)=di n:=rfl
  rw[e]
  by_cases hn:n < 0
  ·rw[w9 hn,dl]
   have hr:c8 (az_ (-n).toNat) 16=true:=Dp (UD (by omega))
   unfold w8
   simp only[dg_,bu_,cu_,hr,ru]
   rw[ac_ (by simp),ac_ (by decide),ac_ (by unfold jr; simp),ac_ (by unfold jV; simp),ac_ (by decide),ae_ trivial,ae_ ⟨trivial,by omega⟩]
   congr 1
   omega
  ·rw[show n=(n.toNat:Int) by omega,mK,dl]
   have hr:c8 (az_ n.toNat) 16=true:=Dp (UD (by omega))
   obtain⟨d1,d2,d3,d4,d5,d6⟩:=zv (u:=n.toNat)
   unfold w8
   rw[ac_ d1,ac_ d2,ac_ d5,ac_ d6,ac_ d3,ac_ d4,ae_ hr,ru]
 ·have e:lb (bG (vT s))=39 :: lb s:=by
   show lb ((⟨#[39]⟩:aa_)++s)=_
   rw[←dM s,show(⟨#[39]⟩:aa_)=ba [39] from rfl,kN,dl]
   simp
  rw[e]
  unfold w8
  rw[ac_ (by simp),ae_ (by rfl)]
  simp only[bu_,cu_,dM]
 ·cases b <;> rfl
 ·have e:lb (bG (vE (n.val:Int)))=lb (cX (n.val:Int)):=rfl
  rw[e]
  have h1 : ∀ n:Fin 6,1≤n.val→lb (cX (n.val:Int))≠[]∧(lb (cX (n.val:Int))).head? = some 35∧lb (cX (n.val:Int))≠jr∧lb (cX (n.val:Int))≠jV:=by decide +kernel
  obtain⟨a1,a2,a3,a4⟩:=h1 n h0
  unfold w8
  rw[ac_ a1,ac_ (by rw[a2]; decide),ac_ a3,ac_ a4,ae_ a2,Lo n h0]
  rfl
theorem qG {v:ac} (h:az v=true):bo (lb (bG v))=(v,true):=by
 unfold bo
 rw[YL h,ae_ h]
theorem abF {w:aj} (h:az (w8 w)=true):bG (w8 w)=ba w:=by
 unfold w8 at h ⊢
 split
 ·rename_i hw
  rw[hw]
  rfl
 ·rename_i hw
  rw[ac_ hw] at h
  split
  ·rename_i h39
   cases w with
   | nil=>cases h39
   | cons y l =>
    simp only[dg_,bd_] at h39
    subst h39
    show(⟨#[39]⟩:aa_)++ba l=_
    rw[show(⟨#[39]⟩:aa_)=ba [39] from rfl,kN]
    rfl
  ·rename_i h39
   rw[ac_ h39] at h
   split
   ·rename_i ht
    rw[ht]
    rfl
   ·rename_i ht
    rw[ac_ ht] at h
    split
    ·rename_i hf
     rw[hf]
     rfl
    ·rename_i hf
     rw[ac_ hf] at h
     split
     ·rename_i h35
      rw[ae_ h35] at h
      have:=ut h rfl
      simp only at this
      exact(aav (by omega)).1
     ·rename_i h35
      rw[ac_ h35] at h
      have e9:az (9,0,eS,())=false:=by decide
      split
      ·rename_i h45
       rw[ae_ h45] at h
       split
       ·rename_i hc
        cases w with
        | nil=>cases h45
        | cons y l =>
         simp only[dg_,bd_] at h45
         subst h45
         simp only[bu_,cu_] at hc ⊢
         show di (-((bS 0 l:Nat):Int))=_
         rw[w9 (by omega),show(- -((bS 0 l:Nat):Int)).toNat=bS 0 l by omega,(Ga hc.1).1]
       ·rename_i hc
        rw[ac_ hc,e9] at h
        cases h
      ·rename_i h45
       rw[ac_ h45] at h
       split
       ·rename_i hc
        show di ((bS 0 w:Nat):Int)=_
        rw[mK,(Ga hc).1]
       ·rename_i hc
        rw[ac_ hc,e9] at h
        cases h
theorem pd {w:aj} (h:(bo w).2=true):az (bo w).1=true∧bG (bo w).1=ba w:=by
 unfold bo at h ⊢
 split at h
 ·rename_i hc
  rw[ae_ hc]
  exact⟨hc,abF hc⟩
 ·cases h
theorem Pa {w:aj} (h:(bo w).2=false):bo w=(v0,false):=by
 unfold bo at h ⊢
 split at h
 ·cases h
 ·rename_i hc
  rw[ac_ hc]
theorem Sj : ∀(l:aj) (a:Nat),a≤bS a l
 | [],a=>aq_ _
 | c :: l,a=>by
  have:=Sj l (a*10+(c.toNat - 48))
  show a≤bS (a*10+(c.toNat - 48)) l
  omega
theorem ML : ∀(l:aj) (a:Nat),l.all dw=true→bS a l≤100000000000000000→fj_ 18446744073709551615 a l = .ok (bS a l)
 | [],a,_,_=>rfl
 | c :: l,a,h,hv=>by
  simp only[cb_,ag_] at h
  have hd:48≤c.toNat∧c.toNat≤57:=by simpa[dw] using h.1
  have hg:=Sj l (a*10+(c.toNat - 48))
  have hv':bS (a*10+(c.toNat - 48)) l≤100000000000000000:=hv
  unfold fj_
  rw[ae_ hd,ac_ (by omega),ac_ (by omega),ML l _ h.2 hv']
  rfl
theorem D5 {l:aj} (h:ki l=true):l.all dw=true:=by
 unfold ki at h
 simp only[ag_] at h
 exact h.1.1
theorem WF {u:Nat} (h:u≤1000000000000000):gn_ 64 (az_ u) = .ok u:=by
 unfold gn_
 rw[ac_ zv.1]
 have:=ML (az_ u) 0 (D5 (rx u)) (by rw[ru]; omega)
 rw[ru] at this
 exact this
theorem UE {u:Nat} (h:u≤1000000000000000):cD (az_ u)=((u:Int),true):=by
 obtain⟨y,l,hy,hd⟩:=H8 u
 have hd':48≤y.toNat∧y.toNat≤57:=by simpa[dw] using hd
 have hp:=WF h
 unfold cD
 have:ef_ 64 (az_ u) = .ok (u:Int):=by
  rw[hy] at hp ⊢
  unfold ef_
  simp only
  rw[ac_ (by omega),hp]
  simp only
  rw[ac_ (by omega),ac_ (by omega),ac_ (by omega)]
 rw[this]
theorem UF {u:Nat} (h:u≤1000000000000000):cD (45 :: az_ u)=(-(u:Int),true):=by
 have hp:=WF h
 unfold cD
 have:ef_ 64 (45 :: az_ u) = .ok (-(u:Int)):=by
  unfold ef_
  simp only
  have h45:(45:UInt8).toNat=45:=rfl
  rw[ae_ (.inr h45),hp]
  simp only
  rw[ac_ (by omega),ac_ (by omega),ae_ h45]
 rw[this]
def cV (w:aj):ac :=
 if([39]:aj).isPrefixOf w=true then vT (ba (w.drop 1)) else
 if w=jV then vB (decide (w=jr)) else
 if w=jr then vB (decide (w=jr)) else
 if([35]:aj).isPrefixOf w=true then(if fx w=0 then v0 else vE (fx w)) else
 if w≠[] then vN (cD w).1 else v0
theorem D6 {v:ac} {w:aj} (h:v.2.2.1.size≤9223372036854775807):((dE v).bind fun z2=>(if(!z2.1.1)=true then(some (((0,0,(⟨#[]⟩:aa_),()),false,()),(()))) else((fE v).bind fun z3=>(if(!(ah_ z3.1.1 == ah_ (ba w)))=true then(some (((0,0,(⟨#[]⟩:aa_),()),false,()),(()))) else(some ((v,true,()),(())))))))=some ((if az v=true∧bG v=ba w then v else v0,decide (az v=true∧bG v=ba w),()),()):=by
 rw[fB h]
 simp only[ab_]
 cases ho:az v with
 | false=>simp; rfl
 | true =>
  rw[tx ho]
  simp only[ab_,bc_,ak_,av_,sG,true_and]
  by_cases hv:bG v=ba w
  ·simp[hv]
  ·simp[hv]; rfl
theorem abG {w:aj} (hc : ∀ v:ac,az v=true→bG v=ba w→cV w=v):(if az (cV w)=true∧bG (cV w)=ba w then cV w else v0)=(bo w).1∧decide (az (cV w)=true∧bG (cV w)=ba w)=(bo w).2:=by
 by_cases h:az (cV w)=true∧bG (cV w)=ba w
 ·have:=qG h.1
  rw[h.2,dl] at this
  rw[ae_ h,bb_ h,this]
  exact⟨rfl,rfl⟩
 ·rw[ac_ h,bf_ h]
  cases h2:(bo w).2 with
  | false=>rw[Pa h2]; exact⟨rfl,rfl⟩
  | true =>
   obtain⟨k1,k2⟩:=pd h2
   refine absurd ?_ h
   rw[hc _ k1 k2]
   exact⟨k1,k2⟩
theorem aay {v:ac} (h:az v=true):cV (lb (bG v))=v:=by
 rcases sw h with rfl | ⟨n,rfl,h0,h1⟩ | ⟨s,rfl⟩ | ⟨b,rfl⟩ | ⟨n,rfl,h0⟩
 ·rfl
 ·have e:bG (vN n)=di n:=rfl
  rw[e]
  by_cases hn:n < 0
  ·rw[w9 hn,dl]
   unfold cV
   rw[ac_ (by simp),ac_ (by unfold jV; simp),ac_ (by unfold jr; simp),ac_ (by simp),ae_ (by simp),UF (by omega)]
   congr 1
   simp only
   omega
  ·rw[show n=(n.toNat:Int) by omega,mK,dl]
   obtain⟨d1,d2,d3,d4,d5,d6⟩:=zv (u:=n.toNat)
   have hp:=UE (u:=n.toNat) (by omega)
   obtain⟨y,l,hy,hd⟩:=H8 n.toNat
   rw[hy] at d1 d2 d3 d4 d5 d6 hp ⊢
   unfold cV
   rw[ac_ (by rw[gY]; simpa using d2),ac_ d6,ac_ d5,ac_ (by rw[gY]; simpa using d3),ae_ d1,hp]
 ·have e:lb (bG (vT s))=39 :: lb s:=by
   show lb ((⟨#[39]⟩:aa_)++s)=_
   rw[←dM s,show(⟨#[39]⟩:aa_)=ba [39] from rfl,kN,dl]
   simp
  rw[e]
  unfold cV
  rw[ae_ (by simp)]
  simp only[bu_,cu_,dM]
 ·cases b <;> rfl
 ·have e:lb (bG (vE (n.val:Int)))=lb (cX (n.val:Int)):=rfl
  rw[e]
  have h1 : ∀ n:Fin 6,1≤n.val→([39]:aj).isPrefixOf (lb (cX (n.val:Int)))=false∧([35]:aj).isPrefixOf (lb (cX (n.val:Int)))=true∧lb (cX (n.val:Int))≠jr∧lb (cX (n.val:Int))≠jV:=by decide +kernel
  obtain⟨a1,a2,a3,a4⟩:=h1 n h0
  unfold cV
  rw[ac_ (by rw[a1]; decide),ac_ a4,ac_ a3,ae_ a2,Lo n h0,ac_ (by omega)]
theorem zw {w:aj} {n:Int} (h0:0≤n) (h1:n≤5) {a b d e:Int} {c f:aa_}:hZ (ba w) n a b c d e f=hZ (ba w) (n+1) a b c (if cX n=ba w then 4 else d) (if cX n=ba w then n else e) (if cX n=ba w then eS else f):=by
 rw[vx,aJ h1,oE h0 h1]
 simp only[ab_,sG,ai_,gJ]
 rw[wr (by omega) (by omega)]
 split <;> rfl
theorem JG {α:Type} (w:aj) (f:Int→α) (z:α) (hz:z=f 0):(if cX 5=ba w then f 5 else if cX 4=ba w then f 4 else if cX 3=ba w then f 3 else if cX 2=ba w then f 2 else if cX 1=ba w then f 1 else z)=f (fx w):=by
 unfold fx
 subst hz
 repeat' split <;> first | rfl | skip
theorem acs {w:aj}:hZ (ba w) 1 0 0 eS 0 0 eS=some ((if az (if fx w=0 then v0 else vE (fx w))=true∧bG (if fx w=0 then v0 else vE (fx w))=ba w then(if fx w=0 then v0 else vE (fx w)) else v0,decide (az (if fx w=0 then v0 else vE (fx w))=true∧bG (if fx w=0 then v0 else vE (fx w))=ba w),()),()):=by
 rw[zw (by decide) (by decide),zw (by decide) (by decide),zw (by decide) (by decide),zw (by decide) (by decide),zw (by decide) (by decide),vx,aE (by decide)]
 have e1:=JG w (fun n=>if n=0 then(0:Int) else 4) 0 (by simp)
 have e2:=JG w (fun n=>n) 0 rfl
 have e3:=JG w (fun n=>eS) eS rfl
 simp only[show(1:Int)+1=2 from rfl,show(2:Int)+1=3 from rfl,show(3:Int)+1=4 from rfl,show(4:Int)+1=5 from rfl]
 simp only[show(5:Int)=0↔False by decide,show(4:Int)=0↔False by decide,show(3:Int)=0↔False by decide,show(2:Int)=0↔False by decide,show(1:Int)=0↔False by decide,av_] at e1
 rw[e1,e2,e3]
 have e:((if fx w=0 then(0:Int) else 4),fx w,eS,())=(if fx w=0 then v0 else vE (fx w)):=by
  by_cases h:fx w=0
  ·rw[ae_ h,ae_ h,h]
   rfl
  ·rw[ac_ h,ac_ h]
   rfl
 rw[e]
 exact D6 (by split <;> (show eS.size≤_; decide))
theorem oK {w:aj} (hw:w.length≤281474976710656):eW (ba w)=some (((bo w).1,(bo w).2,()),()):=by
 obtain⟨p1,p2⟩:=abG (w:=w) (fun v h1 h2=>by have:=aay h1; rw[h2,dl] at this; exact this)
 have fC : ∀ v:ac,cV w=v→(some ((if az v=true∧bG v=ba w then v else v0,decide (az v=true∧bG v=ba w),()),()):Option ((ac×Bool×Unit)×Unit))=some (((bo w).1,(bo w).2,()),()):=by
  rintro v rfl
  rw[p1,p2]
 have hv:=cV.eq_def w
 have e1:(ah_ (ba w) == ah_ (⟨#[84,82,85,69]⟩:aa_))=decide (w=jr):=dK (b:=jr)
 have e2:(ah_ (ba w) == ah_ (⟨#[70,65,76,83,69]⟩:aa_))=decide (w=jV):=dK (b:=jV)
 have e0:(ah_ (ba w) == ah_ (⟨#[]⟩:aa_))=decide (w=[]):=dK (b:=[])
 rw[Mn,show(⟨#[39]⟩:aa_)=ba [39] from rfl,sZ w [39] (by omega),show(⟨#[35]⟩:aa_)=ba [35] from rfl,sY w [35] (by omega),e0,e1,e2]
 simp only[ab_,mI]
 cases h39:([39]:aj).isPrefixOf w with
 | true =>
  rw[ae_ h39] at hv
  simp only[ba_]
  refine(D6 (v:=vT (ba (w.drop 1))) ?_).trans (fC _ hv)
  show(ba _).size≤_
  rw[aK]
  simp
  omega
 | false =>
  rw[ac_ (by rw[h39]; decide)] at hv
  simp only[ak_,av_]
  by_cases hf:w=jV
  ·rw[ae_ hf] at hv
   rw[aJ hf]
   exact(D6 (v:=vB (decide (w=jr))) (by show eS.size≤_; decide)).trans (fC _ hv)
  ·rw[ac_ hf] at hv
   rw[aE hf]
   by_cases ht:w=jr
   ·rw[ae_ ht] at hv
    rw[aJ ht]
    exact(D6 (v:=vB (decide (w=jr))) (by show eS.size≤_; decide)).trans (fC _ hv)
   ·rw[ac_ ht] at hv
    rw[aE ht]
    cases h35:([35]:aj).isPrefixOf w with
    | true =>
     rw[ae_ h35] at hv
     simp only[ba_]
     exact acs.trans (fC _ hv)
    | false =>
     rw[ac_ (by rw[h35]; decide)] at hv
     simp only[ak_,av_]
     by_cases he:w=[]
     ·rw[ac_ (by simpa using he)] at hv
      simp only[he,decide_true,bc_,ak_,av_]
      rw[he] at hv fC
      exact(D6 (v:=v0) (w:=[]) (by decide)).trans (fC _ hv)
     ·rw[ae_ he] at hv
      simp only[he,decide_false,Bool.not_false,ba_,xL hw,ab_,iv]
      exact(D6 (v:=vN (cD w).1) (by show eS.size≤_; decide)).trans (fC _ hv)
end Go.Proofs.YthbkdfcmjmmpgaaGreatDoor.Abs
