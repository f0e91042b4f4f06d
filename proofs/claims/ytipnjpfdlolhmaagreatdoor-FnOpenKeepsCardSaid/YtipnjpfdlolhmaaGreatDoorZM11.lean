/- Plain laws: the values of all cells, as the reference fills them in. -/
import Derived.Test.YtipnjpfdlolhmaaGreatDoorZM10
import Derived.Test.YtipnjpfdlolhmaaGreatDoorZM9
import Derived.Test.YtipnjpfdlolhmaaGreatDoorZM8
set_option linter.unusedVariables false
set_option linter.unusedSimpArgs false
set_option linter.unusedSectionVars false
open Bool renaming and_eq_true→Z8,eq_iff_iff→ci_,false_eq_true→Z5,not_true→aj_,or_eq_false_iff→er_
open ByteArray renaming toList→Z6
open Int renaming le_refl→cv_,tmod_lt_of_pos→gp_
open List renaming filter_cons→ed_,filter_eq_self→ev_,getD_eq_getElem?_getD→ak_,getElem?_eq_getElem→ah_,length_cons→aa_,length_filter_le→dl_,length_map→cn_,length_nil→bg_,length_singleton→Z4,length→ac_,map_cons→bb_,map_map→fj_,mem_cons_of_mem→af_,mem_cons_self→bn_,mem_cons→bd_,mem_of_getElem?→bq_,mem_range→dy_,pairwise_cons→bs_,range→bu_,replicate→az_
open Nat renaming le_refl→ag_,le_trans→bf_
open Option renaming bind_some→Z1,getD_some→ch_,isSome_some→fu_
open Option.some renaming injEq→ap_,inj→bl_
open _root_ renaming ByteArray→Z0,beq_iff_eq→bk_,decide_eq_true_eq→Z9,decide_false→ca_,if_false→ad_,if_neg→Z2,if_pos→Z3,if_true→al_
namespace Go.Proofs.YtipnjpfdlolhmaaGreatDoor.Abs
open Go
theorem XB {s:List ac} {V:Nat→ae} (h:gi s):(aW s V).Pairwise fun a b=>cA a.1 b.1=true:=by
 have h1:((aW s V).map (·.1)).Pairwise fun a b=>cA a b=true:=by
  rw[Dh]
  exact List.Pairwise.map _ (fun a b h=>h) h
 exact List.pairwise_map.1 h1
section
variable {s:List ac} (hs:bd s=true) {told:Nat→Bool} {given:Nat→ae} (hg : ∀ k,k < s.length→au (given k)=true)
include hs hg
theorem Pz : ∀(n k:Nat),k < s.length→au (oi s told given n k)=true
 | 0,k,hk=>LR
 | n+1,k,hk=>by
  unfold oi
  split
  ·exact hg k hk
  ·cases hf:bm (cY s k) with
   | none=>exact Ub _
   | some f =>
    dsimp only
    split
    ·exact nN (by decide) (by decide)
    ·exact I5 (fD hf (fa hs k)) (sE hs fun j hj=>Pz n j hj)
theorem XC {k:Nat} (hk:k < s.length):au (oj s told given k)=true:=Pz hs hg _ k hk
section
variable {lft rest:List Nat} (hlf : ∀ k∈lft,k < s.length) (hre : ∀ k∈rest,k < s.length) (hll:lft.length≤120) (hrl:rest.length≤120)
include hlf hre hll hrl
end
end
section
variable {s:List ac} (hs:bd s=true) {known:List ap} (hk:known.length≤2000000) (hkv : ∀ c∈known,au c.2.1=true) {ask:List aw} (ha:ask.length≤1000000)
include hs hk ha
include hkv
end
open Classical in
open Classical in
section
variable {s:List ac} (hs:bd s=true) {refs:List aw} (hr:refs.length≤120)
include hs
include hr
end
section
variable {s:List ac} (hs:bd s=true)
include hs
variable {refs:List aw}
end
noncomputable def lu (s:List ac) (k:Nat):ae:=oj s (fun _=>false) (fun _=>v0) k
noncomputable def V7 (s:List ac):List ap:=if bd s=true then aW s (lu s) else []
theorem I7 {α:Type} (n k:Nat) (d:α):(az_ n d).getD k d=d:=by
 rw[ak_,List.getElem?_replicate]
 split <;> rfl
section
variable {s:List ac} (hs:bd s=true)
include hs
theorem wj : ∀ c∈s,c.2.1.size≤9223372036854775807:=fun c hc=>bf_ (mc hs c hc) (by decide)
theorem Gl:tM s=some ((aW s (lu s),()),()):=by
 have hn:=cS hs
 rw[Fw,MS (by omega) (wj hs),Z1,Fg (by omega),Fg (by omega)]
 have e:=Oa (told:=fun _=>false) (given:=fun _=>v0) hs (td:=az_ s.length false) (gv:=az_ s.length aq.dflt) (by simp) (by simp) (fun v hv=>by
  rw[List.eq_of_mem_replicate hv]
  exact LR) (fun k _=>(I7 _ _ _).symm) (fun k _=>(I7 _ _ (v0:ae)).symm)
 rw[e]
 rfl
end
section
variable {s:List ac} (h1 : ∀ c∈s,c.2.1.size≤9223372036854775807) (h2:s.length≤1000000000)
include h1 h2
theorem BG:uS s=some ((V7 s,()),()):=by
 rw[LG,wd h1 h2,Z1]
 unfold V7
 cases h:bd s with
 | false=>rfl
 | true =>
  dsimp only
  rw[Z2 (by decide),Gl h]
  rfl
variable {old:List ap} (h3 : ∀ c∈old,c.2.1.2.2.1.size≤9223372036854775807) (h4:old.length≤2000000) {ch:List aw} (h5:ch.length≤1000000000)
include h3 h4 h5
end
theorem zm {s:List ac} {i:Nat} (h:bm (cY s i)=none):cf s i=[]:=by
 unfold cf MM
 rw[h]
 exact List.filter_eq_nil_iff.2 fun k _=>by simp[bu]
section
variable {s:List ac} (hs:bd s=true)
include hs
theorem sT (i:Nat):lu s i=match bm (cY s i) with
  | none=>(bk (lb (cY s i))).1
  | some f=>if zk s i=true then vE 5 else fU f (aW s (lu s)):=by
 have h:=xJ (told:=fun _=>false) (given:=fun _=>v0) (fa hs) i
 rw[Z2 (by decide)] at h
 refine Eq.trans h ?_
 cases hf:bm (cY s i) with
 | none=>rfl
 | some f =>
  dsimp only
  by_cases hr:ey (cf s) i i
  ·rw[Z3 hr,Z3 (kN.2 hr)]
  ·rw[Z2 hr,Z2 (fun x=>hr (kN.1 x))]
   rfl
theorem XD {i:Nat} (hi:i < s.length):au (lu s i)=true:=XC hs (fun _ _=>LR) hi
theorem Ud {t:List ac} (ht:bd t=true) {U:Nat→Prop} {m:Nat→Nat} (hU : ∀ i,U i→i < s.length) (hcl : ∀ i,U i → ∀ k∈cf s i,U k) (inj : ∀ i j,U i→U j→m i=m j→i=j)
  (hnone : ∀ i,U i→bm (cY s i)=none→bm (cY t (m i))=none∧(bk (lb (cY t (m i)))).1=(bk (lb (cY s i))).1)
  (hsome : ∀ i f,U i→bm (cY s i)=some f → ∃ f',bm (cY t (m i))=some f'∧(∀ k∈cf s i,m k∈cf t (m i))∧(∀ j∈cf t (m i),∃ k∈cf s i,m k=j) ∧ ∀ F G:Nat→ae,(∀ k∈cf s i,F k=G (m k))→fU f (aW s F)=fU f' (aW t G)) :
  ∀ i,U i→lu s i=lu t (m i):=by
 have c1 : ∀ i,U i → ∀ k∈cf s i,m k∈cf t (m i):=by
  intro i hi k hk
  cases hf:bm (cY s i) with
  | none=>rw[zm hf] at hk; cases hk
  | some f=>exact(hsome i f hi hf).choose_spec.2.1 k hk
 have c2 : ∀ i,U i → ∀ j∈cf t (m i),∃ k∈cf s i,m k=j:=by
  intro i hi j hj
  cases hf:bm (cY s i) with
  | none=>rw[zm (hnone i hi hf).1] at hj; cases hj
  | some f=>exact(hsome i f hi hf).choose_spec.2.2.1 j hj
 have r1 : ∀ i k,ey (cf s) i k→U i→U k∧ey (cf t) (m i) (m k):=by
  intro i k h
  induction h with
  | one e=>exact fun hi=>⟨hcl _ hi _ e,.one (c1 _ hi _ e)⟩
  | more _ e ih=>exact fun hi=>⟨hcl _ (ih hi).1 _ e,.more (ih hi).2 (c1 _ (ih hi).1 _ e)⟩
 have r2 : ∀ i j,ey (cf t) (m i) j→U i → ∃ k,ey (cf s) i k∧m k=j:=by
  intro i j h hi
  induction h with
  | one e =>
   obtain⟨k,hk,e⟩:=c2 i hi _ e
   exact⟨k,.one hk,e⟩
  | more _ e ih =>
   obtain⟨k,hk,e1⟩:=ih
   rw[←e1] at e
   obtain⟨l,hl,e2⟩:=c2 k (r1 i k hk hi).1 _ e
   exact⟨l,.more hk hl,e2⟩
 have rr : ∀ i,U i→zk s i=zk t (m i):=by
  intro i hi
  rw[ci_,kN,kN]
  constructor
  ·exact fun h=>(r1 i i h hi).2
  ·intro h
   obtain⟨k,hk,e⟩:=r2 i _ h hi
   rw[inj k i (r1 i k hk hi).1 hi e] at hk
   exact hk
 have key : ∀(n:Nat) (i:Nat),U i→v6 (cf s) (bu_ s.length) i≤n→lu s i=lu t (m i):=by
  intro n
  induction n with
  | zero =>
   intro i hi hc
   rw[sT hs i,sT ht (m i)]
   cases hf:bm (cY s i) with
   | none =>
    obtain⟨a,b⟩:=hnone i hi hf
    rw[a]
    exact b.symm
   | some f =>
    obtain⟨f',a,_,_,b⟩:=hsome i f hi hf
    rw[a,rr i hi]
    dsimp only
    split
    ·rfl
    ·refine b _ _ fun k hk => ?_
     have:=Pw hk
     omega
  | succ n ih =>
   intro i hi hc
   rw[sT hs i,sT ht (m i)]
   cases hf:bm (cY s i) with
   | none =>
    obtain⟨a,b⟩:=hnone i hi hf
    rw[a]
    exact b.symm
   | some f =>
    obtain⟨f',a,_,_,b⟩:=hsome i f hi hf
    rw[a,rr i hi]
    dsimp only
    split
    ·rfl
    ·refine b _ _ fun k hk => ?_
     have hUk:=hcl i hi k hk
     by_cases hrk:ey (cf s) k k
     ·rw[sT hs k,sT ht (m k)]
      cases hfk:bm (cY s k) with
      | none =>
       obtain⟨a,b⟩:=hnone k hUk hfk
       rw[a]
       exact b.symm
      | some g =>
       obtain⟨g',a,_,_,b⟩:=hsome k g hUk hfk
       rw[a,←rr k hUk,kN.2 hrk]
       rfl
     ·have:=S6 (N:=bu_ s.length) Ka hk hrk
      exact ih k hUk (by omega)
 exact fun i hi=>key _ i hi (ag_ _)
end
theorem XE {x:Z0} (h:fo x=true) (h61:(lb x).head? = some 61) : ∃ f,bm x=some f∧eM (ba ((lb x).drop 1))=(f,true):=by
 have hsz:=Gi h
 have hw:(lb x).length≤9223372036854775807:=by rw[li]; omega
 obtain⟨h1,h2,h3⟩:=BB.1 h
 have hb:=xF hw
 rw[fm] at hb
 have h4:(ic (lb x)).2=true:=by
  rw[hb] at h1
  exact h1
 have hne:lb x≠[]:=by
  intro e
  rw[e] at h61
  cases h61
 have hp:((lb x).all k7 && decide ((lb x).length≤200))=true:=by
  cases hp:((lb x).all k7 && decide ((lb x).length≤200)) with
  | true=>rfl
  | false =>
   have e:ic (lb x)=([],false):=by
    unfold ic
    rw[Z2 hne,hp,Z3 rfl]
   rw[e] at h4
   cases h4
 have e:=Cq hne hp
 rw[Z3 h61] at e
 dsimp only at e
 have hr:(eM (ba ((lb x).drop 1))).2=true:=by
  by_cases hr:(eM (ba ((lb x).drop 1))).2=true∧bL (eM (ba ((lb x).drop 1))).1≠[]∧(bL (eM (ba ((lb x).drop 1))).1).length < 200
  ·exact hr.1
  ·rw[Z2 hr] at e
   rw[e] at h4
   cases h4
 refine⟨(eM (ba ((lb x).drop 1))).1,?_,Prod.ext rfl hr⟩
 unfold bm
 rw[Z3 ⟨h61,hr⟩]
theorem Ue {s:List ac} (h:gi s) (F:Nat→ae) {i:Nat} (hi:i < s.length):gn (aW s F) (gY s i)=F i:=by
 have key : ∀(l:List ap),(l.Pairwise fun a b=>cA a.1 b.1=true) → ∀ c∈l,gn l c.1=c.2.1:=by
  intro l
  induction l with
  | nil=>intro _ c hc; cases hc
  | cons d l ih =>
   intro hp c hc
   have hp:=bs_.1 hp
   unfold gn
   rcases bd_.1 hc with rfl | hc
   ·rw[Z3 rfl]
   ·rw[Z2 (zj (hp.1 c hc)),ih hp.2 c hc]
 have:=key (aW s F) (XB h) _ (bq_ (uw hi))
 exact this
theorem V8 {l:List ap} (h:oc l=true):l.length≤120:=by
 unfold oc at h
 simp only[Z8,Z9] at h
 omega
theorem Ry {l:List ap} (h:oc l=true) (r:aw):sN l r=some ((gn l r,()),()):=by
 have hl:=V8 h
 have hv:=vi h
 rw[QK,LQ (by omega) (fun c hc=>bf_ (eU (hv c hc)) (by decide)),h,Z1]
 dsimp only
 rw[Z2 (by decide),FN (xs:=l) (by omega)]
 rfl
structure ZD (h:ab→ab) (l l':List ap) (x:ab):Prop where
 kind:(h x).1=x.1
 op:(h x).2.1=x.2.1
 con:(h x).2.2.1=x.2.2.1
 kids:(h x).2.2.2.2.2.1=x.2.2.2.2.2.1
 look:x.1=2→gn l' (h x).2.2.2.1.1=gn l x.2.2.2.1.1
 area:x.1=3→fX l' (b9 (h x))=fX l (b9 x)
section
variable {h:ab→ab} {f:List ab} {l l':List ap} (S : ∀ x∈f,ZD h l l' x)
include S
theorem MV {k:Int} (h0:0≤k) (h1:k < f.length):b8 (f.map h) k=h (b8 f k):=by
 unfold b8
 rw[ak_,ak_,List.getElem?_map,ah_ (by omega)]
 rfl
theorem MW {ev ev':Int→ae} : ∀ ks:List Int,(∀ k∈ks,0≤k∧k < f.length)→(∀ k∈ks,ev' k=ev k)→jA ev' (f.map h) l' ks=jA ev f l ks
 | [],_,_=>rfl
 | k :: ks,hb,he=>by
  unfold jA
  have hk:=hb k bn_
  have hS:=S _ (Mt hk.1 hk.2)
  rw[MW ks (fun j hj=>hb j (af_ _ hj)) (fun j hj=>he j (af_ _ hj)),he k bn_,MV S hk.1 hk.2,hS.kind]
  by_cases h3:(b8 f k).1=3
  ·rw[Z3 h3,Z3 h3,hS.area h3]
  ·rw[Z2 h3,Z2 h3]
theorem MX (A : ∀(i:Nat) (x:ab),f[i]? = some x→kX f i x) : ∀(n:Nat) (k:Int),0≤k→k < n→k < f.length→dN n (f.map h) l' k=dN n f l k
 | 0,k,h0,h1,_=>by omega
 | n+1,k,h0,h1,h2=>by
  obtain⟨x,hx⟩ : ∃ y,f[k.toNat]? = some y:=⟨f[k.toNat]'(by omega),ah_ _⟩
  have hst:=A _ _ hx
  have hnx:b8 f k=x:=by
   unfold b8
   rw[ak_,hx]
   rfl
  have hm:x∈f:=bq_ hx
  have hS:=S x hm
  have hb : ∀ j∈x.2.2.2.2.2.1,0≤j∧j < f.length:=fun j hj=>by
   have:=hst.2 j hj
   omega
  have hk : ∀ j∈x.2.2.2.2.2.1,dN n (f.map h) l' j=dN n f l j:=fun j hj=>by
   have:=hst.2 j hj
   exact MX A n j this.1 (by omega) (by omega)
  have h00:dN n (f.map h) l' 0=dN n f l 0:=by
   cases n with
   | zero=>rfl
   | succ n=>exact MX A (n+1) 0 (by omega) (by omega) (by omega)
  have hkid : ∀ i:Nat,dN n (f.map h) l' (x.2.2.2.2.2.1.getD i 0)=dN n f l (x.2.2.2.2.2.1.getD i 0):=fun i=>by
   rw[ak_]
   by_cases e:i < x.2.2.2.2.2.1.length
   ·rw[ah_ e]
    exact hk _ (List.getElem_mem e)
   ·rw[List.getElem?_eq_none (by omega)]
    exact h00
  unfold dN
  have hkl:kl (h x)=kl x:=by
   unfold kl
   rw[hS.kids]
  simp only[MV S h0 h2,hnx,hS.kind,hS.op,hS.con,hS.kids,hkl,hkid]
  have hargs:=MW S (ev:=dN n f l) (ev':=dN n (f.map h) l') _ hb hk
  rw[hargs]
  by_cases k2:x.1=2
  ·rw[hS.look k2]
  ·rw[Z2 k2,Z2 k2]
theorem Uf (ho:dJ f=true):fU (f.map h) l'=fU f l:=by
 have hb:bA (f.length:Int) 1 60=true:=by
  unfold dJ at ho
  simp only[Z8] at ho
  exact ho.1
 have:=aH.1 hb
 unfold fU
 rw[cn_,MX S (iu ho) f.length _ (by omega) (by omega) (by omega)]
end
def I8 (m:aw→aw) (l:List ap):List ap:=l.map fun c=>(m c.1,c.2.1,())
theorem PA {m:aw→aw} (hm : ∀ p q,m p=m q→p=q) (r:aw) : ∀ l:List ap,gn (I8 m l) (m r)=gn l r
 | []=>rfl
 | c :: l=>by
  have ih:=PA hm r l
  show gn ((m c.1,c.2.1,()) :: I8 m l) (m r)=_
  unfold gn
  by_cases e:c.1=r
  ·rw[Z3 (by rw[e]),Z3 e]
  ·rw[Z2 (fun k=>e (hm _ _ k)),Z2 e,ih]
theorem XF {m:aw→aw} {a a':aB} (ha : ∀ r,jz a' (m r)=jz a r) (l:List ap):fX (I8 m l) a'=fX l a:=by
 unfold fX I8
 rw[List.filter_map,fj_]
 congr 1
 refine List.filter_congr fun c _ => ?_
 exact ha c.1
def ux (o:Option (List ac)):List ac×(Bool×Unit):=match o with
 | none=>([],false,())
 | some r=>(r,true,())
theorem Gm {row many n:Int} {closed:Bool}:n < row→dP row many closed 0 n=n:=fun h=>by
 unfold dP
 rw[Z3 h]
section
variable {s:List ac} (hl:s.length≤1000000) (hs : ∀ c∈s,c.2.1.size≤9223372036854775807∧aA c.1=true)
include hl hs
theorem I9 {e:fO} {closed:Bool} (hk:wh e.1 closed) (hr:1≤e.2.2.2.2.1∧e.2.2.2.2.1≤99) (hm:1≤e.2.2.2.2.2.1∧e.2.2.2.2.2.1≤99) {y:ac} (hy:y∈s) (acc:List ac) (ha:acc.length≤1000000) (q:aw) (k:fO→List ac→Option ((List ac×(Bool×Unit))×Unit)) :
  ((en y.2.1 e).bind fun z1=>(if(!z1.1.2.1)=true then(some ((([]:(List ac)),false,()),(()))) else((gA q).bind fun z2=>(if(!z2.1.1)=true then(some ((([]:(List ac)),false,()),(()))) else(app acc ([(q,z1.1.1,())]:(List ac)) 32 fun y2=>(k z1.2.1 y2)))))) =
  match mb (cB e.2.2.2.2.1 e.2.2.2.2.2.1 closed) y.2.1 with
  | none=>some (([],false,()),())
  | some x=>if aA q=true then k e (acc++[(q,x,())]) else some (([],false,()),()):=by
 rw[xH (hs y hy).1 hk (by omega) (by omega),J9]
 simp only[Z1]
 cases (rY (cB e.2.2.2.2.1 e.2.2.2.2.2.1 closed) y.2.1).2 with
 | false=>rfl
 | true =>
  simp only[aj_,Z5,ad_,al_,l5,Z1]
  cases aA q with
  | false=>rfl
  | true =>
   simp only[aj_,Z5,ad_,al_]
   exact bJ (by simp only[Z4]; omega)
theorem Rz {e:fO} {closed:Bool} (hk:wh e.1 closed) (hr:1≤e.2.2.2.2.1∧e.2.2.2.2.1≤99) (hm:1≤e.2.2.2.2.2.1∧e.2.2.2.2.2.1≤99) {y:ac} (hy:y∈s) (acc:List ac) (ha:acc.length≤1000000) (q:aw) (k:fO→List ac→Option ((List ac×(Bool×Unit))×Unit)) :
  ((eF y.2.1 e.1 e.2.1 e.2.2.1 e.2.2.2.1 e.2.2.2.2.1 e.2.2.2.2.2.1).bind fun z1=>(if(!z1.1.2.1)=true then(some ((([]:(List ac)),false,()),(()))) else((gA q).bind fun z2=>(if(!z2.1.1)=true then(some ((([]:(List ac)),false,()),(()))) else(app acc ([(q,z1.1.1,())]:(List ac)) 32 fun y2=>(k z1.2.1 y2)))))) =
  match mb (cB e.2.2.2.2.1 e.2.2.2.2.2.1 closed) y.2.1 with
  | none=>some (([],false,()),())
  | some x=>if aA q=true then k e (acc++[(q,x,())]) else some (([],false,()),()):=by
 rw[←I9 hl hs hk hr hm hy acc ha q k,Gj (hs y hy).1 hk (by omega) (by omega),xH (hs y hy).1 hk (by omega) (by omega)]
theorem BH {row many:Int} {closed:Bool} {y:ac} {ys acc:List ac} {R:List ac→Option ((List ac×(Bool×Unit))×Unit)} (hg : ¬dW row many closed y.1=true)
  (hR : ∀ z,R (acc++[z])=some (ux ((cb row many closed ys).map fun r=>(acc++[z])++r),())) :
  (match mb (cB row many closed) y.2.1 with
  | none=>some (([],false,()),())
  | some x=>if aA (fF row many closed y.1)=true then R (acc++[(fF row many closed y.1,x,())]) else some (([],false,()),()))=some (ux ((cb row many closed (y :: ys)).map fun r=>acc++r),()):=by
 rw[cb,Z2 hg]
 cases mb (cB row many closed) y.2.1 with
 | none=>rfl
 | some x =>
  dsimp only
  by_cases h:aA (fF row many closed y.1)=true
  ·rw[Z3 h,Z3 h,hR]
   cases cb row many closed ys with
   | none=>rfl
   | some r=>simp[ux]
  ·rw[Z2 h,Z2 h]
   rfl
theorem Ja {e:fO} {closed:Bool} (hk:wh e.1 closed) (hr:1≤e.2.2.2.2.1∧e.2.2.2.2.1≤99) (hm:1≤e.2.2.2.2.2.1∧e.2.2.2.2.2.1≤99) :
  ∀(ys pre acc:List ac),s=pre++ys→acc.length≤pre.length→da s (s.length:Int) (pre.length:Int) e acc=some (ux ((cb e.2.2.2.2.1 e.2.2.2.2.2.1 closed ys).map fun r=>acc++r),())
 | [],pre,acc,h,ha=>by
  rw[zE,aL (ci h),cb]
  simp[ux]
 | y :: ys,pre,acc,h,ha=>by
  have hlen:s.length=pre.length+(ys.length+1):=by rw[h]; simp
  have hy:y∈s:=by rw[h]; simp
  have hb:=bK.1 (hs y hy).2
  have ih:=fun acc' h'=>Ja hk hr hm ys (pre++[y]) acc' (aU h) h'
  have ih1:=fun z=>ih (acc++[z]) (by simp; omega)
  have tail:=I9 hl hs hk hr hm hy acc (by omega)
  rw[zE,aQ (cr h),bI h,bi h (by omega),de (n:=y.1.2.1+e.2.2.2.2.2.1) (by omega) (by omega),de (n:=e.2.2.2.2.1+e.2.2.2.2.2.1) (by omega) (by omega),de (n:=y.1.2.1 - e.2.2.2.2.2.1) (by omega) (by omega)]
  have gq:=fun hg=>BH hl hs (row:=e.2.2.2.2.1) (many:=e.2.2.2.2.2.1) (closed:=closed) (y:=y) (ys:=ys) (acc:=acc) (R:=fun a=>da s (s.length:Int) ((pre++[y]).length:Int) e a) hg ih1
  by_cases c1:y.1.2.1 < e.2.2.2.2.1
  ·have hg : ¬dW e.2.2.2.2.1 e.2.2.2.2.2.1 closed y.1=true:=by
    unfold dW
    simp only[Z8,Z9]
    omega
   have hq:y.1=fF e.2.2.2.2.1 e.2.2.2.2.2.1 closed y.1:=by
    unfold fF
    rw[Gm c1]
   rw[Z3 (by rw[Z9]; exact c1)]
   have t:=tail y.1 (fun e a=>da s (s.length:Int) ((pre++[y]).length:Int) e a)
   rw[t]
   have st:=gq hg
   rw[←hq] at st
   exact st
  ·rw[Z2 (by rw[Z9]; exact c1)]
   rcases hk with⟨hk3,rfl⟩ | ⟨hk4,rfl⟩
   ·have hg : ¬dW e.2.2.2.2.1 e.2.2.2.2.2.1 false y.1=true:=by simp[dW]
    have hq:(y.1.1,y.1.2.1+e.2.2.2.2.2.1,())=fF e.2.2.2.2.1 e.2.2.2.2.2.1 false y.1:=by
     unfold fF dP
     rw[Z2 c1,Z3 rfl]
    rw[Z3 (by rw[hk3]; rfl)]
    have t:=tail (y.1.1,y.1.2.1+e.2.2.2.2.2.1,()) (fun e a=>da s (s.length:Int) ((pre++[y]).length:Int) e a)
    rw[t,hq]
    exact gq hg
   ·rw[Z2 (by rw[hk4]; decide)]
    by_cases c2:y.1.2.1 < e.2.2.2.2.1+e.2.2.2.2.2.1
    ·have hg:dW e.2.2.2.2.1 e.2.2.2.2.2.1 true y.1=true:=by
      unfold dW
      simp only[Z8,Z9,true_and]
      omega
     rw[Z3 (by rw[Z9]; exact c2),ih acc (by simp; omega),cb,Z3 hg]
    ·have hg : ¬dW e.2.2.2.2.1 e.2.2.2.2.2.1 true y.1=true:=by
      unfold dW
      simp only[Z8,Z9,true_and]
      omega
     have hq:(y.1.1,y.1.2.1 - e.2.2.2.2.2.1,())=fF e.2.2.2.2.1 e.2.2.2.2.2.1 true y.1:=by
      unfold fF dP
      rw[Z2 c1,Z2 (by decide),Z2 c2]
     rw[Z2 (by rw[Z9]; exact c2)]
     have t:=tail (y.1.1,y.1.2.1 - e.2.2.2.2.2.1,()) (fun e a=>da s (s.length:Int) ((pre++[y]).length:Int) e a)
     rw[t,hq]
     exact gq hg
theorem Gn {e:fO} {closed:Bool} (hk:wh e.1 closed) (hr:1≤e.2.2.2.2.1∧e.2.2.2.2.1≤99) (hm:1≤e.2.2.2.2.2.1∧e.2.2.2.2.2.1≤99) :
  ∀(ys pre acc:List ac),s=pre++ys→acc.length≤pre.length→uU s (s.length:Int) (pre.length:Int) e.1 e.2.1 e.2.2.1 e.2.2.2.1 e.2.2.2.2.1 e.2.2.2.2.2.1 acc=some (ux ((cb e.2.2.2.2.1 e.2.2.2.2.2.1 closed ys).map fun r=>acc++r),())
 | [],pre,acc,h,ha=>by
  rw[Bb,aL (ci h),cb]
  simp[ux]
 | y :: ys,pre,acc,h,ha=>by
  have hlen:s.length=pre.length+(ys.length+1):=by rw[h]; simp
  have hy:y∈s:=by rw[h]; simp
  have hb:=bK.1 (hs y hy).2
  have ih0:=Gn hk hr hm ys (pre++[y]) acc (aU h) (by simp; omega)
  have ih1:=fun z=>Ja hl hs hk hr hm ys (pre++[y]) (acc++[z]) (aU h) (by simp; omega)
  have tail:=Rz hl hs hk hr hm hy acc (by omega)
  rw[Bb,aQ (cr h),bI h,bi h (by omega),de (n:=y.1.2.1+e.2.2.2.2.2.1) (by omega) (by omega),de (n:=e.2.2.2.2.1+e.2.2.2.2.2.1) (by omega) (by omega),de (n:=y.1.2.1 - e.2.2.2.2.2.1) (by omega) (by omega)]
  have gq:=fun hg=>BH hl hs (row:=e.2.2.2.2.1) (many:=e.2.2.2.2.2.1) (closed:=closed) (y:=y) (ys:=ys) (acc:=acc) (R:=fun a=>da s (s.length:Int) ((pre++[y]).length:Int) e a) hg ih1
  by_cases c1:y.1.2.1 < e.2.2.2.2.1
  ·have hg : ¬dW e.2.2.2.2.1 e.2.2.2.2.2.1 closed y.1=true:=by
    unfold dW
    simp only[Z8,Z9]
    omega
   have hq:y.1=fF e.2.2.2.2.1 e.2.2.2.2.2.1 closed y.1:=by
    unfold fF
    rw[Gm c1]
   rw[Z3 (by rw[Z9]; exact c1)]
   have t:=tail y.1 (fun e a=>da s (s.length:Int) ((pre++[y]).length:Int) e a)
   rw[t]
   have st:=gq hg
   rw[←hq] at st
   exact st
  ·rw[Z2 (by rw[Z9]; exact c1)]
   rcases hk with⟨hk3,rfl⟩ | ⟨hk4,rfl⟩
   ·have hg : ¬dW e.2.2.2.2.1 e.2.2.2.2.2.1 false y.1=true:=by simp[dW]
    have hq:(y.1.1,y.1.2.1+e.2.2.2.2.2.1,())=fF e.2.2.2.2.1 e.2.2.2.2.2.1 false y.1:=by
     unfold fF dP
     rw[Z2 c1,Z3 rfl]
    rw[Z3 (by rw[hk3]; rfl)]
    have t:=tail (y.1.1,y.1.2.1+e.2.2.2.2.2.1,()) (fun e a=>da s (s.length:Int) ((pre++[y]).length:Int) e a)
    rw[t,hq]
    exact gq hg
   ·rw[Z2 (by rw[hk4]; decide)]
    by_cases c2:y.1.2.1 < e.2.2.2.2.1+e.2.2.2.2.2.1
    ·have hg:dW e.2.2.2.2.1 e.2.2.2.2.2.1 true y.1=true:=by
      unfold dW
      simp only[Z8,Z9,true_and]
      omega
     rw[Z3 (by rw[Z9]; exact c2),ih0,cb,Z3 hg]
    ·have hg : ¬dW e.2.2.2.2.1 e.2.2.2.2.2.1 true y.1=true:=by
      unfold dW
      simp only[Z8,Z9,true_and]
      omega
     have hq:(y.1.1,y.1.2.1 - e.2.2.2.2.2.1,())=fF e.2.2.2.2.1 e.2.2.2.2.2.1 true y.1:=by
      unfold fF dP
      rw[Z2 c1,Z2 (by decide),Z2 c2]
     rw[Z2 (by rw[Z9]; exact c2)]
     have t:=tail (y.1.1,y.1.2.1 - e.2.2.2.2.2.1,()) (fun e a=>da s (s.length:Int) ((pre++[y]).length:Int) e a)
     rw[t,hq]
     exact gq hg
theorem Ug {e:fO} {closed:Bool} (hk:wh e.1 closed) (hr:1≤e.2.2.2.2.1∧e.2.2.2.2.1≤99) (hm:1≤e.2.2.2.2.2.1∧e.2.2.2.2.2.1≤99):AU s e=some (ux (cb e.2.2.2.2.1 e.2.2.2.2.2.1 closed s),()):=by
 rw[SU]
 have h:=Gn hl hs hk hr hm s [] [] rfl (ag_ _)
 have e1:(cb e.2.2.2.2.1 e.2.2.2.2.2.1 closed s).map (fun r=>[]++r)=cb e.2.2.2.2.1 e.2.2.2.2.2.1 closed s:=by
  cases cb e.2.2.2.2.1 e.2.2.2.2.2.1 closed s <;> rfl
 rw[e1] at h
 exact h
theorem Uh {row many:Int} {closed:Bool} (hr:1≤row∧row≤99) (hm:1≤many∧many≤99) {y:ac} (hy:y∈s) (hne:y.2.1≠eS) (acc:List ac) (ha:acc.length≤1000000) (q:aw) (k:List ac→Option ((List ac×(Bool×Unit))×Unit)) :
  ((mz y.2.1).bind fun z3=>(if z3.1.2.1=true then((sM z3.1.1 row many closed).bind fun z4=>((oA z4.1.1 true).bind fun z5=>(if(Z6 z5.1.1 == Z6 (⟨#[]⟩:Z0))=true then(some ((([]:(List ac)),false,()),(()))) else((c7 q).bind fun z6=>(if(!z6.1.1)=true then(some ((([]:(List ac)),false,()),(()))) else(app acc ([(q,z5.1.1,())]:(List ac)) 32 fun y2=>(k y2))))))) else(if(Z6 y.2.1 == Z6 (⟨#[]⟩:Z0))=true then(some ((([]:(List ac)),false,()),(()))) else((c7 q).bind fun z7=>(if(!z7.1.1)=true then(some ((([]:(List ac)),false,()),(()))) else(app acc ([(q,y.2.1,())]:(List ac)) 32 fun y3=>(k y3))))))) =
  match mb (cB row many closed) y.2.1 with
  | none=>some (([],false,()),())
  | some x=>if aA q=true then k (acc++[(q,x,())]) else some (([],false,()),()):=by
 have happ : ∀(z:ac) (k:List ac→Option ((List ac×(Bool×Unit))×Unit)),app acc [z] 32 k=k (acc++[z]):=fun z k=>bJ (by simp only[Z4]; omega)
 rw[WB (hs y hy).1,J9]
 simp only[Z1]
 unfold rY
 cases hf:bm y.2.1 with
 | none =>
  simp only[Option.isSome_none,Z5,ad_,al_,q6,hne,ca_,iz,Z1,happ]
  cases aA q with
  | false=>rfl
  | true=>rfl
 | some f =>
  have hok:=fD hf (hs y hy).1
  have hok2:=qx (Bz row many closed) hok
  simp only[fu_,al_,ch_,MG hok (row:=row) (many:=many) (closed:=closed) (by omega) (by omega),Z1,BF hok2,true_and,q6,iz,happ]
  cases hw:I0 (f.map (cB row many closed)) with
  | false=>simp
  | true =>
   have hn:ba (61 :: bL (f.map (cB row many closed)))≠eS:=by
    intro h
    have:=rt (b:=[]) h
    cases this
   simp only[al_,hn,ca_,Z5,ad_]
   cases aA q with
   | false=>rfl
   | true=>rfl
theorem Jb {k:Int} {q0:aw} {t0:Z0} {a0:aB} {row many:Int} {closed:Bool} (hk:(k == 4)=closed) (hr:1≤row∧row≤99) (hm:1≤many∧many≤99) (hne : ∀ c∈s,c.2.1≠eS) :
  ∀(ys pre acc:List ac),s=pre++ys→acc.length≤pre.length→gk s (pre.length:Int) k q0 t0 a0 row many acc=some (ux ((cb row many closed ys).map fun r=>acc++r),())
 | [],pre,acc,h,ha=>by
  rw[zA,aL (ci h),cb]
  simp[ux]
 | y :: ys,pre,acc,h,ha=>by
  have hlen:s.length=pre.length+(ys.length+1):=by rw[h]; simp
  have hy:y∈s:=by rw[h]; simp
  have hb:=bK.1 (hs y hy).2
  have ih:=fun acc' h'=>Jb (q0:=q0) (t0:=t0) (a0:=a0) hk hr hm hne ys (pre++[y]) acc' (aU h) h'
  have ih1:=fun z=>ih (acc++[z]) (by simp; omega)
  have tail:=Uh hl hs hr hm (closed:=closed) hy (hne y hy) acc (by omega) (fF row many closed y.1) (fun a=>gk s ((pre++[y]).length:Int) k q0 t0 a0 row many a)
  have gq:=fun hg=>BH hl hs (row:=row) (many:=many) (closed:=closed) (y:=y) (ys:=ys) (acc:=acc) (R:=fun a=>gk s ((pre++[y]).length:Int) k q0 t0 a0 row many a) hg ih1
  have e1:fh y.1.2.1 row many closed 0=some ((dP row many closed 0 y.1.2.1,()),()):=vt (by omega) (by omega) (by omega)
  rw[zA,aQ (cr h),bI h,bi h (by omega),hk,e1,eB,de (n:=row+many) (by omega) (by omega),de (n:=row+many - 1) (by omega) (by omega)]
  simp only[Z1]
  have hq:(y.1.1,dP row many closed 0 y.1.2.1,())=fF row many closed y.1:=rfl
  rw[hq]
  have gone:dW row many closed y.1=(closed && bA y.1.2.1 row (row+many - 1)):=by
   unfold dW bA
   congr 1
   rw[ci_]
   simp only[Z8,Z9]
   omega
  cases closed with
  | false =>
   rw[Z2 (by decide)]
   exact tail.trans (gq (by simp[dW]))
  | true =>
   rw[Z3 rfl]
   by_cases c:bA y.1.2.1 row (row+many - 1)=true
   ·rw[Z3 c,ih acc (by simp; omega),cb,Z3 (by rw[gone,c]; rfl)]
   ·rw[Z2 c]
    exact tail.trans (gq (by rw[gone]; simpa using c))
theorem RA {e:fO} {closed:Bool} (hk:wh e.1 closed) (hne : ∀ c∈s,c.2.1≠eS):wV s e=if bA e.2.2.2.2.1 1 99=true∧bA e.2.2.2.2.2.1 1 99=true then some (ux (cb e.2.2.2.2.1 e.2.2.2.2.2.1 closed s),()) else some (([],false,()),()):=by
 rw[Qy,Fv,eB,eB]
 simp only[Z1]
 have hk':(e.1 == 4)=closed:=by
  rcases hk with⟨h,rfl⟩ | ⟨h,rfl⟩ <;> rw[h] <;> rfl
 cases h1:bA e.2.2.2.2.1 1 99 with
 | false=>simp
 | true =>
  cases h2:bA e.2.2.2.2.2.1 1 99 with
  | false=>simp
  | true =>
   have b1:=aH.1 h1
   have b2:=aH.1 h2
   simp only[al_,Z1,aj_,Z5,ad_,and_self]
   have h:=Jb hl hs (q0:=e.2.1) (t0:=e.2.2.1) (a0:=e.2.2.2.1) hk' b1 b2 hne s [] [] rfl (ag_ _)
   have e1:(cb e.2.2.2.2.1 e.2.2.2.2.2.1 closed s).map (fun r=>[]++r)=cb e.2.2.2.2.1 e.2.2.2.2.2.1 closed s:=by
    cases cb e.2.2.2.2.1 e.2.2.2.2.2.1 closed s <;> rfl
   rw[e1] at h
   exact h
end
section
variable {row many:Int} (hm:0≤many)
abbrev oG (row many:Int):aw→aw:=fF row many false
theorem uy (o n:Int):dP row many false o n=if n < row then n else n+many:=rfl
include hm
theorem XG (p q:aw) (h:oG row many p=oG row many q):p=q:=by
 have h1:p.1=q.1:=congrArg (fun r=>r.1) h
 have h2:dP row many false 0 p.2.1=dP row many false 0 q.2.1:=congrArg (fun r=>r.2.1) h
 rw[uy,uy] at h2
 refine Po h1 ?_
 split at h2 <;> split at h2 <;> omega
theorem Ui (a:aB) (o:Int) (r:aw):jz ((a.1.1,dP row many false row a.1.2.1,()),(a.2.1.1,dP row many false o a.2.1.2.1,()),()) (oG row many r)=jz a r:=by
 unfold jz oG fF
 dsimp only
 congr 1
 rw[uy,uy,uy,ci_,aH,aH]
 split <;> split <;> split <;> omega
theorem Uj {x:ab} (h:dT x=true) (k:dT (cB row many false x)=true):(x.1=2∧cB row many false x=jb x (rowP row many false row x.2.2.2.1))∨(x.1=3∧cB row many false x=zf (jb x (rowP row many false row x.2.2.2.1)) (rowP row many false (row - 1) x.2.2.2.2.1)):=by
 have hl:dT jV=false:=by decide
 unfold cB at k ⊢
 by_cases h2:x.1=2
 ·rw[Z3 h2] at k ⊢
  rw[Z2 (fun c=>by cases c.1)] at k ⊢
  unfold jE at k ⊢
  split
  ·exact .inl ⟨h2,rfl⟩
  ·rename_i hh
   rw[Z2 hh,hl] at k
   cases k
 ·rw[Z2 h2] at k ⊢
  have h3:x.1=3:=by
   unfold dT at h
   rw[Bool.or_eq_true,Z9,Z9] at h
   exact h.resolve_left h2
  rw[Z3 h3] at k ⊢
  unfold jE at k ⊢
  split
  ·exact .inr ⟨h3,rfl⟩
  ·rename_i hh
   rw[Z2 hh,hl] at k
   cases k
omit hm in
theorem MY {x:ab} (h:dT x=false):cB row many false x=x:=by
 unfold dT at h
 rw[er_,decide_eq_false_iff_not,decide_eq_false_iff_not] at h
 unfold cB
 rw[Z2 h.1,Z2 h.2]
theorem Uk {x:ab} (h:dT x=true) (k:dT (cB row many false x)=true) (r:aw):jz (b9 (cB row many false x)) (oG row many r)=jz (b9 x) r:=by
 rcases Uj hm h k with⟨h2,e⟩ | ⟨h3,e⟩
 ·rw[e]
  have e1:b9 (jb x (rowP row many false row x.2.2.2.1))=((x.2.2.2.1.1.1,dP row many false row x.2.2.2.1.1.2.1,()),(x.2.2.2.1.1.1,dP row many false row x.2.2.2.1.1.2.1,()),()):=by
   unfold b9 jb
   rw[Z3 h2]
   rfl
  have e2:b9 x=(x.2.2.2.1.1,x.2.2.2.1.1,()):=by
   unfold b9
   rw[Z3 h2]
  rw[e1,e2]
  exact Ui hm (x.2.2.2.1.1,x.2.2.2.1.1,()) row r
 ·rw[e]
  have e1:b9 (zf (jb x (rowP row many false row x.2.2.2.1)) (rowP row many false (row - 1) x.2.2.2.2.1))=((x.2.2.2.1.1.1,dP row many false row x.2.2.2.1.1.2.1,()),(x.2.2.2.2.1.1.1,dP row many false (row - 1) x.2.2.2.2.1.1.2.1,()),()):=by
   unfold b9 zf jb
   rw[Z2 (by show ¬x.1=2; omega)]
   rfl
  have e2:b9 x=(x.2.2.2.1.1,x.2.2.2.2.1.1,()):=by
   unfold b9
   rw[Z2 (by omega)]
  rw[e1,e2]
  exact Ui hm (x.2.2.2.1.1,x.2.2.2.2.1.1,()) (row - 1) r
theorem BI : ∀ f:List ab,(bu (f.map (cB row many false))).length≤(bu f).length∧((bu f).length=(bu (f.map (cB row many false))).length → ∀ x∈f,dT x=true→dT (cB row many false x)=true)
 | []=>⟨ag_ _,fun _ x hx=>by cases hx⟩
 | y :: f=>by
  obtain⟨h1,h2⟩:=BI f
  unfold bu at h1 h2 ⊢
  simp only[cn_,bb_,ed_] at h1 h2 ⊢
  cases hy:dT y with
  | false =>
   rw[MY hy,hy]
   simp only[Z5,ad_]
   refine⟨h1,fun e x hx hax => ?_⟩
   rcases bd_.1 hx with rfl | hx
   ·rw[hy] at hax
    cases hax
   ·exact h2 e x hx hax
  | true =>
   cases hg:dT (cB row many false y) with
   | false =>
    simp only[Z5,ad_,al_,aa_]
    exact⟨by omega,fun e=>by omega⟩
   | true =>
    simp only[al_,aa_]
    refine⟨by omega,fun e x hx hax => ?_⟩
    rcases bd_.1 hx with rfl | hx
    ·exact hg
    ·exact h2 (by omega) x hx hax
theorem Ul : ∀ {f:List ab},(∀ x∈f,dT x=true→dT (cB row many false x)=true) → ∀ r:aw,((bu (f.map (cB row many false))).any fun a=>jz a (oG row many r))=(bu f).any fun a=>jz a r
 | [],_,r=>rfl
 | y :: f,h,r=>by
  have ih:=Ul (fun x hx=>h x (af_ _ hx)) r
  unfold bu at ih ⊢
  rw[bb_,ed_,ed_]
  cases hy:dT y with
  | false =>
   rw[MY hy,hy]
   simp only[Z5,ad_]
   exact ih
  | true =>
   have hg:=h y (by simp) hy
   rw[hg,Z3 rfl,Z3 rfl,bb_,List.any_cons,bb_,List.any_cons,ih,Uk hm hy hg]
theorem YV {l:List ap} {x:ab} (h:dT x=true→dT (cB row many false x)=true):ZD (cB row many false) l (I8 (oG row many) l) x:=by
 cases hx:dT x with
 | false =>
  have e:=MY (row:=row) (many:=many) hx
  unfold dT at hx
  rw[er_,decide_eq_false_iff_not,decide_eq_false_iff_not] at hx
  exact⟨by rw[e],by rw[e],by rw[e],by rw[e],fun h=>absurd h hx.1,fun h=>absurd h hx.2⟩
 | true =>
  have hg:=h hx
  have hin:=Uk hm hx hg
  have harea:fX (I8 (oG row many) l) (b9 (cB row many false x))=fX l (b9 x):=XF hin l
  rcases Uj hm hx hg with⟨h2,e⟩ | ⟨h3,e⟩
  ·refine⟨by rw[e]; rfl,by rw[e]; rfl,by rw[e]; rfl,by rw[e]; rfl,fun _ => ?_,fun h3=>by omega⟩
   rw[e]
   have e3:(jb x (rowP row many false row x.2.2.2.1)).2.2.2.1.1=oG row many x.2.2.2.1.1:=rfl
   rw[e3]
   exact PA (XG hm) _ l
  ·refine⟨by rw[e]; rfl,by rw[e]; rfl,by rw[e]; rfl,by rw[e]; rfl,fun h2=>by omega,fun _=>harea⟩
omit hm in
theorem Jc : ∀ {s n:List ac},cb row many false s=some n→n.length=s.length ∧ ∀(i:Nat) (c:ac),s[i]? = some c → ∃ y,n[i]? = some (oG row many c.1,y,())∧mb (cB row many false) c.2.1=some y
 | [],n,h=>by
  unfold cb at h
  cases h
  exact⟨rfl,fun i c hc=>by simp at hc⟩
 | d :: s,n,h=>by
  unfold cb at h
  rw[Z2 (by simp[dW])] at h
  cases hw:mb (cB row many false) d.2.1 with
  | none=>rw[hw] at h; cases h
  | some y =>
   rw[hw] at h
   dsimp only at h
   split at h
   ·cases hr:cb row many false s with
    | none=>rw[hr] at h; cases h
    | some r =>
     rw[hr] at h
     cases h
     obtain⟨h1,h2⟩:=Jc hr
     refine⟨by rw[aa_,aa_,h1],fun i c hc => ?_⟩
     cases i with
     | zero =>
      simp only[List.getElem?_cons_zero,ap_] at hc
      subst hc
      exact⟨y,rfl,hw⟩
     | succ i =>
      simp only[List.getElem?_cons_succ] at hc ⊢
      exact h2 i c hc
   ·cases h
omit hm in
theorem V9 {g:List ab} (hg:dJ g=true) (h1:bL g≠[]) (h2:(bL g).length < 200):bm (ba (61 :: bL g))=some g:=by
 have e:bL g=fT g:=by
  unfold bL at h1 ⊢
  split
  ·rfl
  ·rename_i k
   rw[Z2 k] at h1
   exact absurd rfl h1
 have hr:=MC hg (by rw[←e]; omega)
 unfold bm
 rw[dC,List.drop_succ_cons,List.drop_zero,e,hr,Z3 ⟨rfl,rfl⟩]
variable {s n:List ac} (hs:bd s=true) (hn:cb row many false s=some n) (hlost : ∀ i f,i < s.length→bm (cY s i)=some f→(bu f).length=(bu (f.map (cB row many false))).length)
include hs hn hlost
theorem Gr:bd n=true∧n.length=s.length ∧ ∀ i,i < s.length→gY n i=oG row many (gY s i)∧lu n i=lu s i:=by
 have hok:=Ef hm hs hn
 obtain⟨hlen,hget⟩:=Jc hn
 have hcell : ∀ i,i < s.length→gY n i=oG row many (gY s i)∧mb (cB row many false) (cY s i)=some (cY n i):=by
  intro i hi
  obtain⟨y,h1,h2⟩:=hget i _ (sR (d:=ak.dflt) hi)
  have h3:n.getD i ak.dflt=(oG row many (gY s i),y,()):=by
   rw[ak_,h1]
   rfl
  refine⟨?_,?_⟩
  ·show(n.getD i ak.dflt).1=_
   rw[h3]
  ·show mb (cB row many false) (s.getD i ak.dflt).2.1=some (n.getD i ak.dflt).2.1
   rw[h3]
   exact h2
 have hfrm0 : ∀ i,i < s.length→bm (cY s i)=none→cY n i=cY s i:=by
  intro i hi hf
  have:=(hcell i hi).2
  unfold mb at this
  rw[hf] at this
  exact(bl_ this).symm
 have hfrm1 : ∀ i f,i < s.length→bm (cY s i)=some f→bm (cY n i)=some (f.map (cB row many false)):=by
  intro i f hi hf
  have h:=(hcell i hi).2
  unfold mb at h
  rw[hf] at h
  dsimp only at h
  split at h
  ·rename_i k
   rw[←bl_ h]
   exact V9 (qx (Bz row many false) (fD hf (fa hs i))) k.1 k.2
  ·cases h
 have hln : ∀ i,i < s.length→cf n i=cf s i:=by
  intro i hi
  cases hf:bm (cY s i) with
  | none =>
   have h1:bm (cY n i)=none:=by rw[hfrm0 i hi hf]; exact hf
   rw[zm hf,zm h1]
  | some f =>
   have h1:=hfrm1 i f hi hf
   have hno:=(BI hm f).2 (hlost i f hi hf)
   unfold cf MM xI
   rw[hf,h1,hlen]
   refine List.filter_congr fun k hk => ?_
   rw[(hcell k (dy_.1 hk)).1]
   exact Ul hm hno _
 refine⟨hok,hlen,fun i hi=>⟨(hcell i hi).1,?_⟩⟩
 have hmv:=Ud hs hok (U:=fun i=>i < s.length) (m:=id) (fun i h=>h) (fun i hi k hk=>uv hk) (fun i j _ _ e=>e) (fun i hi hf=>by
  show bm (cY n i)=none∧(bk (lb (cY n i))).1=_
  rw[hfrm0 i hi hf]
  exact⟨hf,rfl⟩) (fun i f hi hf=>by
  have h1:=hfrm1 i f hi hf
  have hno:=(BI hm f).2 (hlost i f hi hf)
  have hl:=hln i hi
  refine⟨_,h1,fun k hk => ?_,fun j hj=>⟨j,?_,rfl⟩,fun F G h => ?_⟩
  ·show k∈cf n i
   rw[hl]
   exact hk
  ·have hj:j∈cf n i:=hj
   rw[hl] at hj
   exact hj
  ·have e1:fU (f.map (cB row many false)) (aW n G)=fU (f.map (cB row many false)) (aW n F):=sD (fa hok i) h1 fun k hk=>by
    rw[hl] at hk
    exact(h k hk).symm
   have e2:aW n F=I8 (oG row many) (aW s F):=by
    unfold aW I8
    rw[fj_,hlen]
    refine List.map_congr_left fun k hk => ?_
    show((gY n k,F k,()):ap)=(oG row many (gY s k),F k,())
    rw[(hcell k (dy_.1 hk)).1]
   rw[e1,e2]
   exact(Uf (fun x hx=>YV hm (hno x hx)) (fD hf (fa hs i))).symm)
 exact(hmv i hi).symm
end
theorem MZ (c:ac) (a:aB):sd c a=some ((dE a c,()),(a,())):=by
 rw[JH,nE]
 rfl
theorem XH (c:ac) (a:aB):AV c a.1 a.2.1=some ((dE a c,()),(a,())):=by
 rw[Lw,nE]
 rfl
theorem XI {s:List ac} {a:aB} (hl:s.length≤1000000000) : ∀(ys pre:List ac),s=pre++ys→cx s (s.length:Int) (pre.length:Int) a=some ((jc (dE a) ys pre.length,()),(a,())) :=
 ul (p:=dE a) (d:=ak.dflt) (F:=fun j=>some ((j,()),(a,()))) (s:=s) (P:=fun j=>cx s (s.length:Int) j a) (by omega) fun j=>by
  rw[lr]
  simp only[MZ,Z1]
theorem XJ {s:List ac} {a:aB} (hl:s.length≤1000000000):fp s a.1 a.2.1=some ((jc (dE a) s 0,()),(a,())):=by
 rw[m8,lA]
 cases s with
 | nil=>rfl
 | cons c l =>
  have h2:=XI (a:=a) hl l [c] rfl
  rw[aQ (by rw[aa_]; omega)]
  have hix : ∀ {β:Type} {F:ac→Option β},ix (c :: l) 0 ak.dflt F=F c:=fun {β F}=>bI (pre:=[]) (ys:=l) rfl
  rw[hix,XH,Z1]
  dsimp only
  unfold jc
  by_cases h:dE a c=true
  ·rw[Z3 h,Z3 h]
   rfl
  ·rw[Z2 h,Z2 h]
   exact h2
theorem XK {s:List ac} {a:aB} (hl:s.length≤1000000000):dg s a.1 a.2.1=some ((dU a s,()),(a,())):=by
 rw[lz,XJ hl,Z1]
 dsimp only
 have hc:dU a s=s.filter fun c => !dE a c:=rfl
 rw[hc]
 by_cases h:jc (dE a) s 0 = -1
 ·rw[h,Z3 (by rfl)]
  have:=Ct h
  have hf:(s.filter fun c => !dE a c)=s:=ev_.2 fun c hc=>by
   have:=this c hc
   simpa using this
  rw[hf]
 ·obtain⟨pre,x,ys,h1,h2,h3,h4⟩:=Cu h
  rw[Z2 (by simpa using h),h4,Nat.zero_add]
  have hlen:pre.length+1+ys.length≤1000000000:=by rw[h1] at hl; simp at hl; omega
  have hd:=um (p:=dE a) (d:=ak.dflt) (P:=fun i j xs=>cg i j xs a) (F:=fun l=>some ((l,()),(a,()))) (fun i j xs=>by
   rw[kI]
   simp only[MZ,Z1]) ys pre [x] (by simp only[Z4]; omega) (by simp)
  rw[wr (by omega) (by omega)]
  have e1:pre++[x]++ys=s:=by rw[h1]; simp
  have e2:((pre.length+[x].length:Nat):Int)=(pre.length:Int)+1:=by simp
  rw[e1,e2] at hd
  refine hd.trans ?_
  have e3:(s.filter fun c => !dE a c)=pre++ys.filter fun c => !dE a c:=by
   rw[h1,List.filter_append,List.filter_cons_of_neg (by simp[h2])]
   congr 1
   rw[ev_]
   intro c hc
   simpa using h3 c hc
  rw[e3]
theorem RB {s:List ac} (hl:s.length≤1000000000):eY s=some ((),(ew (α:=ak.den) TY s,())):=by
 rw[mI]
 unfold f0
 simp only[im?,dite_true,Z1,al_]
 exact Z3 (by omega)
theorem BJ : ∀ {q s:List ac},(∀ c∈q,c.2.1≠eS)→gi q→(∀ c∈s,∀ d∈q,c.1≠d.1)→(iv s q).Perm (s++q)
 | [],s,_,_,_=>by simp[iv]
 | d :: q,s,hne,hq,hd=>by
  have hq':=bs_.1 hq
  have h1:(fE s d.1 d.2.1).Perm (s++[d]):=by
   unfold fE
   rw[Z2 (hne d bn_)]
   have:=uk (r:=d.1) (x:=d.2.1) s
   rwa[TW (fun c hc=>hd c hc d bn_)] at this
  have h2:=BJ (q:=q) (s:=fE s d.1 d.2.1) (fun c hc=>hne c (af_ _ hc)) hq'.2 (fun c hc e he=>by
   rcases List.mem_append.1 (h1.mem_iff.1 hc) with h | h
   ·exact hd c h e (af_ _ he)
   ·rw[List.mem_singleton.1 h]
    exact zj (hq'.1 e he))
  have h3:(fE s d.1 d.2.1++q).Perm (s++[d]++q):=h1.append_right q
  have:=h2.trans h3
  have e:iv s (d :: q)=iv (fE s d.1 d.2.1) q:=rfl
  rw[e]
  simpa using this
theorem Wa {s q:List ac} (hs:gi s) (hne : ∀ c∈q,c.2.1≠eS) (hq:gi q) (hd : ∀ c∈s,∀ d∈q,c.1≠d.1):ew (α:=ak.den) TY (s++q)=iv s q :=
 vF ((vD Rq _).trans (BJ hne hq hd).symm) (zp Rq _) (MJ hs)
section
variable {s:List ac} (hl:s.length≤1000000) (hs : ∀ c∈s,c.2.1.size≤9223372036854775807∧aA c.1=true)
include hl hs
theorem Jd {k:Int} {q0:aw} {t0:Z0} {a:aB} {m n c r:Int} (hc : -1000≤c∧c≤1000) (hr : -1000≤r∧r≤1000) :
  ∀(ys pre acc:List ac),s=pre++ys→acc.length+ys.length≤2000000→mA s (s.length:Int) (pre.length:Int) k q0 t0 a m n c r acc=(match ie a c r ys with
   | none=>some (([],false,()),())
   | some q=>(AW (acc++q)).bind fun z3=>some ((z3.1.1,(decide ((ac_ (acc++q):Int)≤120)),()),()))
 | [],pre,acc,h,ha=>by
  rw[zy,aL (ci h),ie]
  simp
 | y :: ys,pre,acc,h,ha=>by
  have hlen:s.length=pre.length+(ys.length+1):=by rw[h]; simp
  have hy:y∈s:=by rw[h]; simp
  have hb:=bK.1 (hs y hy).2
  have ih:=fun acc' h'=>Jd (k:=k) (q0:=q0) (t0:=t0) (a:=a) (m:=m) (n:=n) hc hr ys (pre++[y]) acc' (aU h) h'
  rw[zy,aQ (cr h),bI h,bi h (by omega),nE,ie]
  simp only[Z1]
  by_cases hi:rO a y.1=true
  ·have hi':(bA y.1.1 a.1.1 a.2.1.1 && bA y.1.2.1 a.1.2.1 a.2.1.2.1)=true:=hi
   rw[hi',Z2 (by decide),Z3 hi,JO (hs y hy).1 hc hr,J9]
   simp only[Z1]
   cases (rY (k8 c r) y.2.1).2 with
   | false=>rfl
   | true =>
    simp only[aj_,Z5,ad_,al_]
    rw[de (n:=y.1.1+c) (by omega) (by omega),de (n:=y.1.2.1+r) (by omega) (by omega),bJ (by simp only[aa_,bg_] at ha ⊢; omega),ih _ (by simp only[List.length_append,aa_,bg_] at ha ⊢; omega)]
    cases ie a c r ys with
    | none=>rfl
    | some q =>
     simp only[Option.map_some,List.append_assoc,List.singleton_append]
     rfl
  ·have hi0:rO a y.1=false:=by simpa using hi
   have hi':(bA y.1.1 a.1.1 a.2.1.1 && bA y.1.2.1 a.1.2.1 a.2.1.2.1)=false:=hi0
   rw[hi',Z3 (by decide),Z2 hi,ih acc (by simp only[aa_] at ha; omega)]
theorem Gs {k:Int} {q0:aw} {t0:Z0} {a to:aB} {m n c r:Int} :
  ∀(ys pre acc:List ac),s=pre++ys→acc.length≤pre.length→mB s c r (pre.length:Int) k to.1 t0 a m n to.2.1.1 to.2.1.2.1 acc=jL s c r 0 k to.1 t0 a m n (acc++dU to ys)
 | [],pre,acc,h,ha=>by
  rw[zB,aL (ci h)]
  simp[dU]
 | y :: ys,pre,acc,h,ha=>by
  have hlen:s.length=pre.length+(ys.length+1):=by rw[h]; simp
  have ih:=fun acc' h'=>Gs (k:=k) (q0:=q0) (t0:=t0) (a:=a) (to:=to) (m:=m) (n:=n) (c:=c) (r:=r) ys (pre++[y]) acc' (aU h) h'
  have hw:lT y.1 (to.1,(to.2.1.1,to.2.1.2.1,()),())=some ((dE to y,()),()):=by
   rw[tR,eB,eB]
   simp only[Z1]
   unfold dE
   cases bA y.1.1 to.1.1 to.2.1.1 <;> simp
  rw[zB,aQ (cr h),bI h,bi h (by omega),hw]
  simp only[Z1]
  have hcl:dU to (y :: ys)=if dE to y=true then dU to ys else y :: dU to ys:=by
   unfold dU
   rw[ed_]
   unfold dE
   cases bA y.1.1 to.1.1 to.2.1.1 && bA y.1.2.1 to.1.2.1 to.2.1.2.1 <;> rfl
  rw[hcl]
  by_cases hi:dE to y=true
  ·rw[hi,Z2 (by decide),Z3 rfl,ih acc (by simp; omega)]
  ·have hi':dE to y=false:=by simpa using hi
   rw[hi',Z3 (by decide),bI h,bJ (by simp only[Z4]; omega),ih _ (by simp; omega)]
   simp
theorem Gt {k:Int} {q0:aw} {t0:Z0} {a:aB} {m n c r:Int} (hc : -52≤c∧c≤52) (hr : -99≤r∧r≤99) (hne : ∀ c∈s,c.2.1≠eS) :
  ∀(ys pre acc:List ac),s=pre++ys→acc.length≤pre.length+500000→(pre.length:Nat)≤400000→s.length≤400000→jL s c r (pre.length:Int) k q0 t0 a m n acc=(match ie a c r ys with
   | none=>some (([],false,()),())
   | some q=>some ((iv acc q,(decide ((ac_ (iv acc q):Int)≤120)),()),()))
 | [],pre,acc,h,ha,_,_=>by
  rw[xo,aL (ci h),ie]
  rfl
 | y :: ys,pre,acc,h,ha,hp,hsl=>by
  have hlen:s.length=pre.length+(ys.length+1):=by rw[h]; simp
  have hy:y∈s:=by rw[h]; simp
  have hb:=bK.1 (hs y hy).2
  have ih:=fun acc' h'=>Gt (k:=k) (q0:=q0) (t0:=t0) (a:=a) (m:=m) (n:=n) hc hr hne ys (pre++[y]) acc' (aU h) h' (by simp; omega) hsl
  have hw:lT y.1 a=some ((rO a y.1,()),()):=by
   rw[tR,eB,eB]
   simp only[Z1]
   unfold rO
   cases bA y.1.1 a.1.1 a.2.1.1 <;> simp
  rw[xo,aQ (cr h),bI h,bi h (by omega),hw,ie]
  simp only[Z1]
  by_cases hi:rO a y.1=true
  ·rw[hi,Z2 (by decide),Z3 rfl,bI h,WB (hs y hy).1,J9]
   simp only[Z1]
   have hset : ∀ x,wS acc (uo c r y.1) x=some ((fE acc (uo c r y.1) x,()),()):=fun x=>IV (by omega)
   have hmv:(y.1.1+c,y.1.2.1+r,())=uo c r y.1:=rfl
   have ft : ∀ x:Z0,(match ie a c r ys with
     | none=>some ((([]:List ac),false,()),())
     | some q=>some ((iv (fE acc (uo c r y.1) x) q,(decide ((ac_ (iv (fE acc (uo c r y.1) x) q):Int)≤120)),()),()))=(match (ie a c r ys).map fun q=>(uo c r y.1,x,()) :: q with
     | none=>some ((([]:List ac),false,()),())
     | some q=>some ((iv acc q,(decide ((ac_ (iv acc q):Int)≤120)),()),())):=fun x=>by
    cases ie a c r ys with
    | none=>rfl
    | some q=>rfl
   have hsl' : ∀ x,(fE acc (uo c r y.1) x).length≤(pre++[y]).length+500000:=fun x=>by
    have:=Xp acc (uo c r y.1) x
    simp
    omega
   unfold rY
   cases hf:bm y.2.1 with
   | none =>
    simp only[Option.isSome_none,Z5,ad_,al_,q6,hne y hy,ca_]
    rw[bI h,bI h,de (n:=y.1.1+c) (by omega) (by omega),de (n:=y.1.2.1+r) (by omega) (by omega),hmv,hset]
    simp only[Z1]
    rw[ih _ (hsl' _)]
    exact ft _
   | some f =>
    have hok:=fD hf (hs y hy).1
    have hok2:=qx (TO c r) hok
    simp only[fu_,al_,ch_]
    rw[N6 hok,Z3 ⟨aH.2 hc,aH.2 hr⟩]
    simp only[Z1,BF hok2,true_and,q6]
    cases hw:I0 (f.map (k8 c r)) with
    | false=>simp
    | true =>
     have hn:ba (61 :: bL (f.map (k8 c r)))≠eS:=by
      intro h
      have:=rt (b:=[]) h
      cases this
     simp only[al_,hn,ca_,Z5,ad_]
     rw[bI h,bI h,de (n:=y.1.1+c) (by omega) (by omega),de (n:=y.1.2.1+r) (by omega) (by omega),hmv,hset]
     simp only[Z1]
     rw[ih _ (hsl' _)]
     exact ft _
  ·have hi':rO a y.1=false:=by simpa using hi
   rw[hi',Z3 (by decide),Z2 (by decide),ih acc (by simp; omega)]
end
theorem vw (a:aB):cy a=pC a:=by
 unfold cy pC
 cases aA a.1 <;> cases aA a.2.1 <;> simp
section
variable {s:List ac} (hs:bd s=true)
include hs
theorem jO:s.length≤120∧(∀ c∈s,c.2.1.size≤9223372036854775807∧aA c.1=true)∧(∀ c∈s,c.2.1≠eS)∧gi s:=by
 have h:=cR.1 hs
 exact⟨cS hs,fun c hc=>⟨bf_ (mc hs c hc) (by decide),(h.2.1 c hc).1⟩,YL (TX hs),h.1⟩
theorem RC (e:fO) : ∃ x,B0 s e=some ((x,(ut s e).2,()),())∧((ut s e).2=true→x=(ut s e).1):=by
 obtain⟨hl,hs1,hne,hsrt⟩:=jO hs
 rw[Qv,mN,mN,vw]
 simp only[Z1]
 unfold ut
 by_cases k1:pC e.2.2.2.1=true
 ·by_cases k2:aA e.2.1=true
  ·have b1:=MK.1 k1
   have b2:=bK.1 b1.1
   have b3:=bK.1 b1.2.1
   have b4:=bK.1 k2
   have w1:=de (n:=e.2.1.1 - e.2.2.2.1.1.1) (by omega) (by omega)
   have w2:=de (n:=e.2.1.2.1 - e.2.2.2.1.1.2.1) (by omega) (by omega)
   have w3:=de (n:=e.2.2.2.1.2.1.1+(e.2.1.1 - e.2.2.2.1.1.1)) (by omega) (by omega)
   have w4:=de (n:=e.2.2.2.1.2.1.2.1+(e.2.1.2.1 - e.2.2.2.1.1.2.1)) (by omega) (by omega)
   rw[k1,w1,w2,w3,w4]
   simp only[aj_,Z5,ad_]
   have hto:(e.2.1,(e.2.2.2.1.2.1.1+(e.2.1.1 - e.2.2.2.1.1.1),e.2.2.2.1.2.1.2.1+(e.2.1.2.1 - e.2.2.2.1.1.2.1),()),())=fG e:=rfl
   rw[hto]
   have hta:cy (fG e)=aA (fG e).2.1:=by
    unfold cy
    have h1:(fG e).1=e.2.1:=rfl
    rw[h1,k2]
    have h2:e.2.1.1≤(fG e).2.1.1:=by show e.2.1.1≤e.2.2.2.1.2.1.1+(e.2.1.1 - e.2.2.2.1.1.1); omega
    have h3:e.2.1.2.1≤(fG e).2.1.2.1:=by show e.2.1.2.1≤e.2.2.2.1.2.1.2.1+(e.2.1.2.1 - e.2.2.2.1.1.2.1); omega
    simp[h2,h3]
   rw[hta]
   by_cases k3:aA (fG e).2.1=true
   ·rw[k3,Z2 (by decide),Z3 (by simp[k2]),wg (by omega)]
    simp only[Z1]
    have hd:=XK (s:=s) (a:=fG e) (by omega)
    have hd':dg s e.2.1 (e.2.2.2.1.2.1.1+(e.2.1.1 - e.2.2.2.1.1.1),e.2.2.2.1.2.1.2.1+(e.2.1.2.1 - e.2.2.2.1.1.2.1),())=some ((dU (fG e) s,()),(fG e,())):=hd
    rw[hd']
    simp only[Z1]
    have hcl:(dU (fG e) s).length≤s.length:=dl_ _ _
    have hlp:=Jd (by omega) hs1 (k:=e.1) (q0:=e.2.1) (t0:=e.2.2.1) (a:=e.2.2.2.1) (m:=e.2.2.2.2.1) (n:=e.2.2.2.2.2.1) (c:=e.2.1.1 - e.2.2.2.1.1.1) (r:=e.2.1.2.1 - e.2.2.2.1.1.2.1) (by omega) (by omega) s [] (dU (fG e) s) rfl (by omega)
    have hlp':mA s (s.length:Int) 0 e.1 e.2.1 e.2.2.1 e.2.2.2.1 e.2.2.2.2.1 e.2.2.2.2.2.1 (e.2.1.1 - e.2.2.2.1.1.1) (e.2.1.2.1 - e.2.2.2.1.1.2.1) (dU (fG e) s)=_:=hlp
    rw[hlp']
    cases hq:ie e.2.2.2.1 (e.2.1.1 - e.2.2.2.1.1.1) (e.2.1.2.1 - e.2.2.2.1.1.2.1) s with
    | none=>exact⟨_,rfl,fun h=>by cases h⟩
    | some q =>
     have hm:=uq hq
     have hqs:=Eg hsrt hq
     have hqne : ∀ c∈q,c.2.1≠eS:=fun c hc=>by
      obtain⟨x,hx,_,_,g3⟩:=hm.2 c hc
      exact Ee (Hj ((cR.1 hs).2.1 x hx).2 g3)
     have hdis : ∀ c∈dU (fG e) s,∀ d∈q,c.1≠d.1:=fun c hc d hd he=>by
      obtain⟨x,hx,g1,g2,_⟩:=hm.2 d hd
      have h1:=(List.mem_filter.1 hc).2
      have h2:dE (fG e) c=true:=by
       unfold rO at g1
       rw[Z8,aH,aH] at g1
       unfold dE fG
       rw[he,g2]
       unfold uo
       rw[Z8,aH,aH]
       dsimp only
       omega
      have h3:(!(dE (fG e) c))=true:=h1
      rw[h2] at h3
      cases h3
     dsimp only
     rw[Ly,RB (by simp; omega)]
     simp only[Z1]
     have hsrtc:gi (dU (fG e) s):=List.Pairwise.filter _ hsrt
     have hso:=Wa hsrtc hqne hqs hdis
     have hln:=(BJ hqne hqs hdis).length_eq
     rw[←hln]
     by_cases h120:(iv (dU (fG e) s) q).length≤120
     ·rw[Z3 h120,show decide (((iv (dU (fG e) s) q).length:Int)≤120)=true by rw[Z9]; omega]
      exact⟨_,rfl,fun _=>hso⟩
     ·rw[Z2 h120,show decide (((iv (dU (fG e) s) q).length:Int)≤120)=false by rw[decide_eq_false_iff_not]; omega]
      exact⟨_,rfl,fun h=>by cases h⟩
   ·have k3':aA (fG e).2.1=false:=by simpa using k3
    rw[k3',Z3 (by decide),Z2 (fun h=>by cases h.2.2)]
    exact⟨_,rfl,fun h=>by cases h⟩
  ·have k2':aA e.2.1=false:=by simpa using k2
   have : ∀ z:aw,cy (e.2.1,z,())=false:=fun z=>by
    unfold cy
    rw[k2']
    rfl
   rw[k1,this,Z2 (by decide),Z3 (by decide),Z2 (fun h=>k2 h.2.1)]
   exact⟨_,rfl,fun h=>by cases h⟩
 ·have k1':pC e.2.2.2.1=false:=by simpa using k1
  rw[k1',Z3 (by decide),Z2 (fun h=>by cases h.1)]
  exact⟨_,rfl,fun h=>by cases h⟩
theorem RD (e:fO) : ∃ x,B1 s e=some ((x,(ut s e).2,()),())∧((ut s e).2=true→x=(ut s e).1):=by
 obtain⟨hl,hs1,hne,hsrt⟩:=jO hs
 rw[Qz,yK,iz,iz,vw]
 simp only[Z1]
 unfold ut
 by_cases k1:pC e.2.2.2.1=true
 ·by_cases k2:aA e.2.1=true
  ·have b1:=MK.1 k1
   have b2:=bK.1 b1.1
   have b3:=bK.1 b1.2.1
   have b4:=bK.1 k2
   have w1:=de (n:=e.2.1.1 - e.2.2.2.1.1.1) (by omega) (by omega)
   have w2:=de (n:=e.2.1.2.1 - e.2.2.2.1.1.2.1) (by omega) (by omega)
   have w3:=de (n:=e.2.2.2.1.2.1.1+(e.2.1.1 - e.2.2.2.1.1.1)) (by omega) (by omega)
   have w4:=de (n:=e.2.2.2.1.2.1.2.1+(e.2.1.2.1 - e.2.2.2.1.1.2.1)) (by omega) (by omega)
   rw[k1,k2,w1,w2,w3,w4]
   simp only[aj_,Z5,ad_]
   have hto:(e.2.2.2.1.2.1.1+(e.2.1.1 - e.2.2.2.1.1.1),e.2.2.2.1.2.1.2.1+(e.2.1.2.1 - e.2.2.2.1.1.2.1),())=(fG e).2.1:=rfl
   rw[hto]
   by_cases k3:aA (fG e).2.1=true
   ·rw[k3,Z2 (by decide),Z3 (by simp)]
    have hcl:(dU (fG e) s).length≤s.length:=dl_ _ _
    have h1:=Gs (by omega) hs1 (k:=e.1) (q0:=e.2.1) (t0:=e.2.2.1) (a:=e.2.2.2.1) (to:=fG e) (m:=e.2.2.2.2.1) (n:=e.2.2.2.2.2.1) (c:=e.2.1.1 - e.2.2.2.1.1.1) (r:=e.2.1.2.1 - e.2.2.2.1.1.2.1) s [] [] rfl (ag_ _)
    have h2:=Gt (by omega) hs1 (k:=e.1) (q0:=e.2.1) (t0:=e.2.2.1) (a:=e.2.2.2.1) (m:=e.2.2.2.2.1) (n:=e.2.2.2.2.2.1) (c:=e.2.1.1 - e.2.2.2.1.1.1) (r:=e.2.1.2.1 - e.2.2.2.1.1.2.1) (by omega) (by omega) hne s [] (dU (fG e) s) rfl (by omega) (by simp) (by omega)
    have h3:mB s (e.2.1.1 - e.2.2.2.1.1.1) (e.2.1.2.1 - e.2.2.2.1.1.2.1) 0 e.1 e.2.1 e.2.2.1 e.2.2.2.1 e.2.2.2.2.1 e.2.2.2.2.2.1 (e.2.2.2.1.2.1.1+(e.2.1.1 - e.2.2.2.1.1.1)) (e.2.2.2.1.2.1.2.1+(e.2.1.2.1 - e.2.2.2.1.1.2.1)) []=_:=h1.trans h2
    rw[h3]
    cases hq:ie e.2.2.2.1 (e.2.1.1 - e.2.2.2.1.1.1) (e.2.1.2.1 - e.2.2.2.1.1.2.1) s with
    | none=>exact⟨_,rfl,fun h=>by cases h⟩
    | some q =>
     dsimp only
     by_cases h120:(iv (dU (fG e) s) q).length≤120
     ·rw[Z3 h120]
      refine⟨iv (dU (fG e) s) q,?_,fun _=>rfl⟩
      rw[show decide (((iv (dU (fG e) s) q).length:Int)≤120)=true by rw[Z9]; omega]
     ·rw[Z2 h120]
      refine⟨iv (dU (fG e) s) q,?_,fun h=>by cases h⟩
      rw[show decide (((iv (dU (fG e) s) q).length:Int)≤120)=false by rw[decide_eq_false_iff_not]; omega]
   ·have k3':aA (fG e).2.1=false:=by simpa using k3
    rw[k3',Z3 (by decide),Z2 (fun h=>by cases h.2.2)]
    exact⟨_,rfl,fun h=>by cases h⟩
  ·have k2':aA e.2.1=false:=by simpa using k2
   rw[k1,k2',Z2 (by decide),Z3 (by decide),Z2 (fun h=>by cases h.2.1)]
   exact⟨_,rfl,fun h=>by cases h⟩
 ·have k1':pC e.2.2.2.1=false:=by simpa using k1
  rw[k1',Z3 (by decide),Z2 (fun h=>by cases h.1)]
  exact⟨_,rfl,fun h=>by cases h⟩
end
section
variable {ls:List (List ac)} (hls:ls.length≤10)
include hls
end
section
variable {a b:List ac} (ha:a.length≤2000000) (hb:b.length≤2000000)
include ha hb
end
section
variable {a b:List ac} (ha:a.length≤2000000) (hb:b.length≤2000000) (hsa : ∀ c∈a,c.2.1.size≤9223372036854775807) (hsb : ∀ c∈b,c.2.1.size≤9223372036854775807)
include ha hb hsa hsb
end
theorem Zk {s:List ac} {q:aw} {x:Z0} (h:(ur s q x).2=false):ur s q x=([],false):=by
 unfold ur at h ⊢
 split
 ·rename_i k
  rw[Z3 k] at h
  cases h
 ·rfl
theorem Zl {s:List ac} {e:fO} (h:(ut s e).2=false):ut s e=([],false):=by
 unfold ut at h ⊢
 split
 ·rename_i k
  rw[Z3 k] at h
  cases hm:ie e.2.2.2.1 (e.2.1.1 - e.2.2.2.1.1.1) (e.2.1.2.1 - e.2.2.2.1.1.2.1) s with
  | none=>rfl
  | some q =>
   rw[hm] at h
   dsimp only at h ⊢
   split
   ·rename_i k2
    rw[Z3 k2] at h
    cases h
   ·rfl
 ·rfl
theorem Zm {s:List ac} {e:fO} (h:(vv s e).2=false):vv s e=([],false):=by
 unfold vv at h ⊢
 split
 ·rename_i k
  rw[Z3 k] at h
  cases hm:cb e.2.2.2.2.1 e.2.2.2.2.2.1 (decide (e.1=4)) s with
  | none=>rfl
  | some q=>rw[hm] at h; cases h
 ·rfl
theorem RE {s:List ac} {e:fO} (h:(pD s e).2=false):pD s e=([],false):=by
 unfold pD at h ⊢
 split
 ·rename_i k
  rw[Z3 k] at h
  exact Zk h
 ·rename_i k
  rw[Z2 k] at h
  split
  ·rename_i k2
   rw[Z3 k2] at h
   split
   ·rename_i k3
    rw[Z3 k3] at h
    cases h
   ·rfl
  ·rename_i k2
   rw[Z2 k2] at h
   split
   ·rename_i k3
    rw[Z3 k3] at h
    exact Zm h
   ·rename_i k3
    rw[Z2 k3] at h
    split
    ·rename_i k4
     rw[Z3 k4] at h
     exact Zl h
    ·rfl
theorem M0 (n:Int):rd n=some ((bA n 1 99,()),()):=by
 rw[ST,gl]
 rfl
section
variable {s:List ac} (hs:bd s=true)
include hs
theorem Um {r:aw} {x:Z0} (hx:x.size≤9223372036854775807):K1 s r x=some (((ur s r x).1,(ur s r x).2,()),()):=by
 obtain⟨hl,hs1,hne,hsrt⟩:=jO hs
 rw[SS,(uj hx).1,wd (fun c hc=>(hs1 c hc).1) (by omega),l5]
 simp only[Z1]
 unfold ur
 rw[hs]
 cases h2:aA r with
 | false=>simp
 | true =>
  cases h3:(fC x).2 with
  | false=>simp
  | true =>
   rw[N8 hsrt (by omega)]
   simp only[Z1,aj_,Z5,ad_]
   by_cases h4:(fE s r (fC x).1).length≤120
   ·rw[aL (by omega),Z3 (by simp[h4])]
   ·rw[aQ (by omega),Z2 (by simp[h4])]
theorem Un {e:fO} (hk:e.1=3∨e.1=4):((rd e.2.2.2.2.1).bind fun z5=>(if z5.1.1=true then((rd e.2.2.2.2.2.1).bind fun z6=>(if z6.1.1=true then((AU s e).bind fun z7=>(some (z7.1,(())))) else(some ((([]:(List ac)),false,()),(()))))) else(some ((([]:(List ac)),false,()),(())))))=some (((vv s e).1,(vv s e).2,()),()):=by
 obtain⟨hl,hs1,hne,hsrt⟩:=jO hs
 have hK:wh e.1 (decide (e.1=4)):=by
  rcases hk with h | h
  ·exact .inl ⟨h,by rw[h]; rfl⟩
  ·exact .inr ⟨h,by rw[h]; rfl⟩
 rw[M0,M0]
 simp only[Z1]
 unfold vv
 cases h1:bA e.2.2.2.2.1 1 99 with
 | false=>simp
 | true =>
  cases h2:bA e.2.2.2.2.2.1 1 99 with
  | false=>simp
  | true =>
   rw[Ug (by omega) hs1 hK (aH.1 h1) (aH.1 h2)]
   simp only[al_,Z1,and_self]
   cases cb e.2.2.2.2.1 e.2.2.2.2.2.1 (decide (e.1=4)) s <;> rfl
theorem Uo {e:fO} (hk:e.1=3∨e.1=4):wV s e=some (((vv s e).1,(vv s e).2,()),()):=by
 obtain⟨hl,hs1,hne,hsrt⟩:=jO hs
 have hK:wh e.1 (decide (e.1=4)):=by
  rcases hk with h | h
  ·exact .inl ⟨h,by rw[h]; rfl⟩
  ·exact .inr ⟨h,by rw[h]; rfl⟩
 rw[RA (by omega) hs1 hK hne]
 unfold vv
 split
 ·cases cb e.2.2.2.2.1 e.2.2.2.2.2.1 (decide (e.1=4)) s <;> rfl
 ·rfl
theorem Ob {e:fO} (hx:e.2.2.1.size≤9223372036854775807) : ∃ x,DH s e=some ((x,(pD s e).2,()),())∧((pD s e).2=true→x=(pD s e).1):=by
 obtain⟨hl,hs1,hne,hsrt⟩:=jO hs
 rw[NI]
 unfold pD
 by_cases k1:e.1=1
 ·rw[Z3 (by rw[k1]; rfl),Z3 k1,Um hs hx]
  exact⟨_,rfl,fun _=>rfl⟩
 ·rw[Z2 (by rw[bk_]; exact k1),Z2 k1]
  by_cases k2:e.1=2
  ·rw[Z3 (by rw[k2]; rfl),Z3 k2,wg (by omega)]
   simp only[Z1]
   rw[Xw (by omega)]
   simp only[Z1,mN,vw]
   cases pC e.2.2.2.1 with
   | true=>exact⟨_,rfl,fun _=>rfl⟩
   | false=>exact⟨_,rfl,fun h=>by cases h⟩
  ·rw[Z2 (by rw[bk_]; exact k2),Z2 k2]
   by_cases k3:e.1=3
   ·rw[Z3 (by rw[k3]; rfl),Z3 (by rw[k3]; rfl),Z3 (.inl k3),Un hs (.inl k3)]
    exact⟨_,rfl,fun _=>rfl⟩
   ·rw[Z2 (by rw[bk_]; exact k3)]
    by_cases k4:e.1=4
    ·rw[Z3 (by rw[k4]; rfl),Z3 (.inr k4),Un hs (.inr k4)]
     exact⟨_,rfl,fun _=>rfl⟩
    ·rw[Z2 (by rw[bk_]; exact k4),Z2 (c:=e.1=3∨e.1=4) (by omega)]
     by_cases k5:e.1=5
     ·rw[Z3 (by rw[k5]; rfl),Z3 k5]
      obtain⟨x,h1,h2⟩:=RC hs e
      rw[h1]
      exact⟨x,rfl,h2⟩
     ·rw[Z2 (by rw[bk_]; exact k5),Z2 k5]
      exact⟨_,rfl,fun h=>by cases h⟩
theorem JP {e:fO} (hx:e.2.2.1.size≤9223372036854775807) : ∃ x,yx s e=some ((x,(pD s e).2,()),())∧((pD s e).2=true→x=(pD s e).1):=by
 obtain⟨hl,hs1,hne,hsrt⟩:=jO hs
 rw[JJ]
 unfold pD
 by_cases k1:e.1=1
 ·rw[Z3 (by rw[k1]; rfl),Z3 k1,IW (by omega) (fun c hc=>(hs1 c hc).1) hx]
  exact⟨_,rfl,fun _=>rfl⟩
 ·rw[Z2 (by rw[bk_]; exact k1),Z2 k1]
  by_cases k2:e.1=2
  ·rw[Z3 (by rw[k2]; rfl),Z3 k2,yK,vw]
   simp only[Z1]
   cases pC e.2.2.2.1 with
   | true =>
    rw[Z2 (by decide),Z3 rfl]
    exact⟨_,IZ (by omega) s [] [] rfl (ag_ _),fun _=>by simp⟩
   | false=>exact⟨_,rfl,fun h=>by cases h⟩
  ·rw[Z2 (by rw[bk_]; exact k2),Z2 k2]
   by_cases k3:e.1=3
   ·rw[Z3 (by rw[k3]; rfl),Z3 (by rw[k3]; rfl),Z3 (.inl k3),Uo hs (.inl k3)]
    exact⟨_,rfl,fun _=>rfl⟩
   ·rw[Z2 (by rw[bk_]; exact k3)]
    by_cases k4:e.1=4
    ·rw[Z3 (by rw[k4]; rfl),Z3 (.inr k4),Uo hs (.inr k4)]
     exact⟨_,rfl,fun _=>rfl⟩
    ·rw[Z2 (by rw[bk_]; exact k4),Z2 (c:=e.1=3∨e.1=4) (by omega)]
     by_cases k5:e.1=5
     ·rw[Z3 (by rw[k5]; rfl),Z3 k5]
      obtain⟨x,h1,h2⟩:=RD hs e
      rw[h1]
      exact⟨x,rfl,h2⟩
     ·rw[Z2 (by rw[bk_]; exact k5),Z2 k5]
      exact⟨_,rfl,fun h=>by cases h⟩
end
noncomputable def rZ (s:List ac) (e:fO):List ac×Bool:=if bd s=true then pD s e else([],false)
section
variable {s:List ac} (hs : ∀ c∈s,c.2.1.size≤9223372036854775807) (hl:s.length≤2000000)
include hs hl
theorem Oc {e:fO} (hx:e.2.2.1.size≤9223372036854775807):DI s e=some (((rZ s e).1,(rZ s e).2,()),()):=by
 rw[NJ,wd hs (by omega)]
 simp only[Z1]
 unfold rZ
 cases h:bd s with
 | false=>rfl
 | true =>
  obtain⟨x,h1,h2⟩:=Ob h hx
  rw[Z2 (by decide),Z3 rfl,h1]
  simp only[Z1]
  cases hb:(pD s e).2 with
  | false =>
   rw[RE hb]
   rfl
  | true =>
   rw[h2 hb]
   rfl
theorem Od {e:fO} (hx:e.2.2.1.size≤9223372036854775807):DK s e=some (((rZ s e).1,(rZ s e).2,()),()):=by
 rw[NN,Dd hs (by omega)]
 simp only[Z1]
 unfold rZ
 cases h:bd s with
 | false=>rfl
 | true =>
  obtain⟨x,h1,h2⟩:=JP h hx
  rw[Z2 (by decide),Z3 rfl,h1]
  simp only[Z1]
  cases hb:(pD s e).2 with
  | false =>
   rw[RE hb]
   rfl
  | true =>
   rw[h2 hb]
   rfl
end
theorem Uq {s:List ac} {e:fO} (hx:e.2.2.1.size≤9223372036854775807) (h:(rZ s e).2=true):bd s=true∧bd (rZ s e).1=true∧rZ s e=pD s e:=by
 unfold rZ at h ⊢
 cases hs:bd s with
 | false=>rw[hs] at h; cases h
 | true =>
  rw[hs,Z3 rfl] at h
  rw[Z3 rfl]
  exact⟨rfl,YR hx hs h,rfl⟩
section
variable {s:List ac} (hs : ∀ c∈s,c.2.1.size≤9223372036854775807) (hl:s.length≤2000000) {L:List fO} (hL:L.length≤2000000) (hx : ∀ e∈L,e.2.2.1.size≤9223372036854775807)
include hs hl hL hx
end
section
variable {s:List ac} (hs : ∀ c∈s,c.2.1.size≤9223372036854775807) (hl:s.length≤2000000) {e:fO} (hx:e.2.2.1.size≤9223372036854775807)
include hs hl hx
end
section
variable {o x y:List ac} (ho:o.length≤2000000) (hx:x.length≤2000000) (hy:y.length≤2000000)
include ho hx hy
end
section
variable {o x y:List ac} (ho:o.length≤2000000) (hx:x.length≤2000000) (hy:y.length≤2000000) (hso : ∀ c∈o,c.2.1.size≤9223372036854775807) (hsx : ∀ c∈x,c.2.1.size≤9223372036854775807) (hsy : ∀ c∈y,c.2.1.size≤9223372036854775807)
include ho hx hy hso hsx hsy
end
section
variable {c:List Int} (hc:IJ c)
include hc
theorem M1 {i:Int} (h2:0≤i) (h3:i≤(c.length:Int)):Ok (fun z=>(0≤z.1.1∧z.1.1≤255)∧Rd c z.2.1) (r7 c i):=by
 have:=sO hc (s:=(c,i,())) ⟨rfl,h2,h3⟩
 rw[w7] at this
 rw[Jj]
 exact this
theorem Ur {n i:Int} (h2:0≤i) (h3:i≤(c.length:Int)) (hn:1≤n):Ok (fun z=>(0≤z.1.1∧z.1.1 < n)∧Rd c z.2.1) (vO n c i):=by
 rw[GR]
 refine Ok.ite (fun _=>Ok.one ⟨⟨cv_ _,by show(0:Int) < n; omega⟩,rfl,h2,h3⟩) fun _=>Ok.ite (fun _ => ?_) fun _ => ?_
 ·refine Ok.bnd (M1 hc h2 h3) fun z hz=>Ok.nz (by omega) (Ok.one ⟨⟨Int.tmod_nonneg _ hz.1.1,gp_ _ (by omega)⟩,hz.2⟩)
 ·refine Ok.bnd (M1 hc h2 h3) fun z hz=>Ok.bnd (sO hc hz.2) fun y hy => ?_
  have h1:=hz.1
  have h2:=hy.1
  rw[wr (n:=z.1.1*256) (by omega) (by omega),wr (by omega) (by omega)]
  exact Ok.nz (by omega) (Ok.one ⟨⟨Int.tmod_nonneg _ (by omega),gp_ _ (by omega)⟩,hy.2⟩)
theorem Us {n:Nat} {i:Int} (hn:n≤900) (h2:0≤i) (h3:i≤(c.length:Int)):Ok (fun z=>IX z.1.1∧Rd c z.2.1) (qL (n:Int) c i):=by
 rw[GU,wr (by omega) (by omega)]
 refine Ok.bnd (Ur hc h2 h3 (by omega)) fun z hz => ?_
 rw[show z.1.1=(z.1.1.toNat:Int) by omega]
 exact BE hc _ (by omega) hz.2 ⟨Nat.zero_le _,fun c hc=>by cases hc⟩
end
def ZE (l:List fO):Prop:=l.length≤8 ∧ ∀ c∈l,c.2.2.1.size≤6401
theorem ZE.sz {l:List fO} (h:ZE l) : ∀ e∈l,e.2.2.1.size≤9223372036854775807:=fun e he=>bf_ (h.2 e he) (by decide)
section
variable {c:List Int} (hc:IJ c)
include hc
theorem Wb {β:Type} {Q:β→Prop} {n:Int} {f:(List ac×Unit)×aY×Unit→Option β} (h0:0≤n) (h1:n≤900) (k : ∀ z,IX z.1.1→Rd c z.2.1→Ok Q (f z)):Ok Q ((GH c).bind fun z1=>(qL n z1.1.1.1 z1.1.1.2.1).bind f):=by
 obtain⟨m,rfl⟩ : ∃ m:Nat,n=(m:Int):=⟨n.toNat,by omega⟩
 rw[Qe,Z1]
 exact Ok.bnd (Us hc (by omega) (cv_ _) (by show(0:Int)≤(c.length:Int); omega)) fun z hz=>k z hz.1 hz.2
theorem Ej:Ok (fun z=>IX z.1.1) (rF c):=by
 rw[DQ]
 exact Wb hc (by decide) (by decide) fun z1 s1 r1=>Ok.one s1
end
end Go.Proofs.YtipnjpfdlolhmaaGreatDoor.Abs
