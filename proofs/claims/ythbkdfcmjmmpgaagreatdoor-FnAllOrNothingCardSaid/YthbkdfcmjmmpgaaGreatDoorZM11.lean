/- Plain laws: the values of all cells of a sheet, some of them told. -/
import Derived.Test.YthbkdfcmjmmpgaaGreatDoorZM5
import Derived.Test.YthbkdfcmjmmpgaaGreatDoorZM8
import Derived.Test.YthbkdfcmjmmpgaaGreatDoorZM10
set_option linter.unusedVariables false
set_option linter.unusedSimpArgs false
set_option linter.unusedSectionVars false
open Bool renaming and_eq_true→ah_,eq_false_iff→cm_,eq_iff_iff→bw_,false_eq_true→aj_,false_or→ct_,not_true→bc_,or_eq_true→cx_
open Go.IntKind renaming i64→hb_,wrap→ha_
open Int renaming le_refl→cj_,toNat_natCast→bu_,toNat→ap_
open List renaming all_eq_true→ck_,any_eq_true→eo_,append_nil→bx_,filter_cons_of_neg→et_,filter_cons_of_pos→fe_,filter_map→gb_,getD_eq_getElem?_getD→ao_,getD→au_,getElem?_eq_getElem→as_,getElem?_eq_none→cd_,getElem?_map→gf_,getElem?_replicate→gx_,length_append→ae_,length_cons→ak_,length_drop→dk_,length_filter_le→en_,length_map→bp_,length_nil→bi_,length_range→fq_,length_set→el_,length_singleton→ac_,length_take→cc_,length→al_,map_congr_left→ev_,map_cons→cs_,map_map→fk_,mem_append_left→cz_,mem_append→bo_,mem_cons_of_mem→ar_,mem_cons→bb_,mem_filter→dp_,mem_map→fa_,mem_range→ds_,mem_singleton→bh_,nil_append→da_,nodup_append→gh_,nodup_cons→eu_,pairwise_cons→bq_,range→bs_,replicate→bl_,set→ep_
open Nat renaming le_refl→aq_,le_trans→bn_,zero_le→dd_
open Option renaming bind_some→ab_,getD_some→cw_
open _root_ renaming ByteArray→aa_,absurd→bk_,decide_eq_false→be_,decide_eq_true_eq→ai_,decide_eq_true→bd_,if_neg→ad_,if_pos→af_
namespace Go.Proofs.YthbkdfcmjmmpgaaGreatDoor.Abs
open Go
def bb (s:List ae) (i:Nat):ah:=(s.getD i av.dflt).1
def ge (s:List ae) (i:Nat):aa_:=(s.getD i av.dflt).2.1
noncomputable def KV (s:List ae) (i:Nat):List am:=ci ((cZ (ge s i)).getD [])
def tu (s:List ae) (ar:List am):List Nat:=(bs_ s.length).filter fun k=>ar.any fun a=>dK a (bb s k)
noncomputable def cd (s:List ae) (i:Nat):List Nat:=tu s (KV s i)
def bc (s:List ae) (F:Nat→ac):List aj:=(bs_ s.length).map fun k=>(bb s k,F k,())
theorem RO {s:List ae} {ar:List am} {k:Nat}:k∈tu s ar↔k < s.length∧(ar.any fun a=>dK a (bb s k))=true:=by
 unfold tu
 rw[dp_,ds_]
theorem L2 {s:List ae} : ∀ i,∀ k∈cd s i,k∈bs_ s.length:=fun i k hk=>ds_.2 (RO.1 hk).1
theorem O7 (s:List ae) (ar:List am) (F:Nat→ac):kt ar (bc s F)=(tu s ar).map fun k=>(bb s k,F k,()):=by
 unfold kt bc tu
 rw[gb_]
 rfl
theorem abe {s:List ae} {ar:List am} {F G:Nat→ac} (h : ∀ k∈tu s ar,F k=G k):kt ar (bc s F)=kt ar (bc s G):=by
 rw[O7,O7]
 exact ev_ fun k hk=>by rw[h k hk]
theorem KW {f:List ab} {l m:List aj} (hf:fg f=true) (h:kt (ci f) l=kt (ci f) m):fN f l=fN f m:=by
 rw[←OS (l:=l) hf,←OS (l:=m) hf,h]
theorem AJ {s:List ae} {i:Nat} {f:List ab} {F G:Nat→ac} (hx:(ge s i).size≤9223372036854775807) (hf:cZ (ge s i)=some f) (h : ∀ k∈cd s i,F k=G k):fN f (bc s F)=fN f (bc s G):=by
 refine KW (k8 hf hx) (abe fun k hk=>h k ?_)
 unfold cd KV
 rw[hf]
 exact hk
section
variable (s:List ae) (told:Nat→Bool) (given:Nat→ac)
def Y7 (i:Nat):Prop:=told i=true∨cZ (ge s i)=none∨dV (cd s) i i
open Classical in
noncomputable def lO:Nat→Nat→ac
 | 0,_=>v0
 | n+1,i=>if told i=true then given i else match cZ (ge s i) with
  | none=>(bJ (lb (ge s i))).1
  | some f=>if dV (cd s) i i then vE 5 else fN f (bc s (lO n))
noncomputable def dj (i:Nat):ac:=lO s told given (s.length+1) i
variable {s told given}
theorem Wn {i:Nat} (h:Y7 s told i) (n m:Nat):lO s told given (n+1) i=lO s told given (m+1) i:=by
 unfold lO
 by_cases ht:told i=true
 ·rw[af_ ht,af_ ht]
 ·rw[ad_ ht,ad_ ht]
  cases hf:cZ (ge s i) with
  | none=>rfl
  | some f =>
   by_cases hr:dV (cd s) i i
   ·simp only[af_ hr]
   ·rcases h with h | h | h
    ·exact bk_ h ht
    ·rw[hf] at h; cases h
    ·exact bk_ h hr
open Classical in
theorem Z2 {i k:Nat} (hk:k∈cd s i):1≤xu (cd s) (bs_ s.length) i:=by
 unfold xu
 have:k∈(bs_ s.length).filter fun j=>decide (dV (cd s) i j):=dp_.2 ⟨L2 i k hk,by
  rw[ai_]
  exact .one hk⟩
 exact List.length_pos_of_mem this
theorem Wo (i:Nat):xu (cd s) (bs_ s.length) i≤s.length:=by
 unfold xu
 refine bn_ (en_ _ _) ?_
 rw[fq_]
 exact aq_ _
theorem Wp (hs : ∀ i,(ge s i).size≤9223372036854775807) {i n m:Nat} (ih : ∀ k∈cd s i,lO s told given n k=lO s told given m k):lO s told given (n+1) i=lO s told given (m+1) i:=by
 unfold lO
 by_cases ht:told i=true
 ·rw[af_ ht,af_ ht]
 ·rw[ad_ ht,ad_ ht]
  cases hf:cZ (ge s i) with
  | none=>rfl
  | some f =>
   by_cases hr:dV (cd s) i i
   ·simp only[af_ hr]
   ·simp only[ad_ hr]
    exact AJ (hs i) hf ih
theorem EF (hs : ∀ i,(ge s i).size≤9223372036854775807) : ∀(n m i:Nat),xu (cd s) (bs_ s.length) i < n→xu (cd s) (bs_ s.length) i < m→lO s told given n i=lO s told given m i
 | 0,_,_,h,_=>by omega
 | _+1,0,_,_,h=>by omega
 | n+1,m+1,i,hn,hm=>by
  refine Wp hs fun k hk => ?_
  have hp:=Z2 hk
  by_cases hl:Y7 s told k
  ·obtain⟨n',rfl⟩ : ∃ n',n=n'+1:=⟨n - 1,by omega⟩
   obtain⟨m',rfl⟩ : ∃ m',m=m'+1:=⟨m - 1,by omega⟩
   exact Wn hl n' m'
  ·have hc:=NU (N:=bs_ s.length) L2 hk fun hr=>hl (.inr (.inr hr))
   exact EF hs n m k (by omega) (by omega)
open Classical in
theorem rA (hs : ∀ i,(ge s i).size≤9223372036854775807) (i:Nat):dj s told given i=if told i=true then given i else match cZ (ge s i) with
  | none=>(bJ (lb (ge s i))).1
  | some f=>if dV (cd s) i i then vE 5 else fN f (bc s (dj s told given)):=by
 have h1:dj s told given i=lO s told given (s.length+2) i:=EF hs _ _ i (by have:=Wo (s:=s) i; omega) (by have:=Wo (s:=s) i; omega)
 rw[h1]
 rfl
end
section
variable {α:Type}
theorem AK {p:α→Bool} : ∀(l:List α) (n:Nat),decide (mD p l n≥0)=l.any p
 | [],n=>by
  show decide ((-1:Int)≥0)=false
  decide
 | c :: l,n=>by
  unfold mD
  rw[List.any_cons]
  by_cases h:p c=true
  ·rw[af_ h,h,Bool.true_or]
   exact bd_ (by omega)
  ·rw[ad_ h,AK l (n+1)]
   simp[h]
theorem C9 (l:List α) (d:α):(bs_ l.length).map (fun i=>l.getD i d)=l:=by
 apply List.ext_getElem
 ·simp
 ·intro i h1 h2
  simp[ao_,h2]
theorem pD {l:List α} {d:α} {i:Nat} (h:i < l.length):l[i]? = some (l.getD i d):=by
 rw[ao_,as_ h]
 rfl
theorem rB {l:List α} {d:α} {i:Nat} (h:i < l.length):l.getD i d∈l:=List.mem_of_getElem? (pD h)
end
theorem sP {α β:Type} {xs:List α} {i:Nat} {y d:α} {f:α→Option β} (h:xs[i]? = some y):ix xs (i:Int) d f=f y:=bP (nn _) h
section
variable {α:Type} [DecidableEq α]
def aF:List α→List α→List α
 | t,[]=>t
 | t,k :: ks=>if k∈t then aF t ks else aF (t++[k]) ks
theorem Wq (t:List α) (k:α) (ks:List α):aF t (k :: ks)=if k∈t then aF t ks else aF (t++[k]) ks:=rfl
theorem oY : ∀(ks t:List α),∃ ex,aF t ks=t++ex
 | [],t=>⟨[],by simp[aF]⟩
 | k :: ks,t=>by
  unfold aF
  split
  ·exact oY ks t
  ·obtain⟨ex,h⟩:=oY ks (t++[k])
   exact⟨k :: ex,by rw[h]; simp⟩
theorem k9 : ∀(ks t:List α) (j:α),j∈aF t ks↔j∈t∨j∈ks
 | [],t,j=>by simp[aF]
 | k :: ks,t,j=>by
  unfold aF
  by_cases hk:k∈t
  ·rw[af_ hk,k9,bb_]
   constructor
   ·rintro(e | e)
    ·exact .inl e
    ·exact .inr (.inr e)
   ·rintro(e | e | e)
    ·exact .inl e
    ·rw[e]
     exact .inl hk
    ·exact .inr e
  ·rw[ad_ hk,k9,bo_,bh_,bb_,or_assoc]
theorem tV : ∀(ks t:List α),t.Nodup→(aF t ks).Nodup
 | [],t,h=>h
 | k :: ks,t,h=>by
  unfold aF
  by_cases hk:k∈t
  ·rw[af_ hk]
   exact tV ks t h
  ·rw[ad_ hk]
   refine tV ks _ ?_
   rw[gh_]
   refine⟨h,by simp,fun a ha b hb => ?_⟩
   rw[bh_.1 hb]
   exact fun e=>hk (e ▸ ha)
theorem jU : ∀(a b t:List α),aF t (a++b)=aF (aF t a) b
 | [],b,t=>rfl
 | k :: a,b,t=>by
  rw[List.cons_append,Wq,Wq]
  split
  ·exact jU a b t
  ·exact jU a b _
theorem RP : ∀(ks t:List α),(∀ k∈ks,k∈t)→aF t ks=t
 | [],t,_=>rfl
 | k :: ks,t,h=>by
  unfold aF
  rw[af_ (h k (by simp))]
  exact RP ks t fun j hj=>h j (ar_ _ hj)
theorem sR : ∀(L ks:List α),(aF L ks).length≤L.length+ks.length
 | L,[]=>aq_ _
 | L,k :: ks=>by
  unfold aF
  rw[ak_]
  split
  ·have:=sR L ks
   omega
  ·have:=sR (L++[k]) ks
   rw[ae_,ac_] at this
   omega
theorem rC (t:List α) (k:α):aF t [k]=if k∈t then t else t++[k]:=rfl
theorem Wr (t:List α) (k:α) (ks:List α):aF t (k :: ks)=aF (aF t [k]) ks:=jU [k] ks t
theorem AL : ∀(ks L t:List α),aF L (aF t ks)=aF (aF L t) ks
 | [],L,t=>rfl
 | k :: ks,L,t=>by
  by_cases hk:k∈t
  ·have h2:k∈aF L t:=(k9 _ _ _).2 (.inr hk)
   have e1:aF t (k :: ks)=aF t ks:=by
    conv=>lhs; unfold aF
    rw[af_ hk]
   have e2:aF (aF L t) (k :: ks)=aF (aF L t) ks:=by
    conv=>lhs; unfold aF
    rw[af_ h2]
   rw[e1,e2]
   exact AL ks L t
  ·have e1:aF t (k :: ks)=aF (t++[k]) ks:=by
    conv=>lhs; unfold aF
    rw[ad_ hk]
   rw[e1,AL ks L (t++[k]),jU,←Wr]
theorem abf (L t:List α):aF L (aF [] t)=aF L t:=by
 rw[AL]
 rfl
theorem L3 (t:List α) (j:α):j∈aF [] t↔j∈t:=by
 rw[k9]
 simp
theorem RQ (t:List α):(aF [] t).Nodup:=tV t [] List.nodup_nil
theorem abJ (a b:List α):aF [] (a++b)=aF (aF [] a) b:=jU a b []
theorem abK (t ks:List α):aF [] (aF t ks)=aF (aF [] t) ks:=AL ks [] t
theorem wT : ∀(l m:List α),l.Nodup→(∀ x∈l,x∈m)→l.length≤m.length
 | [],m,_,_=>dd_ _
 | a :: l,m,hd,h=>by
  have hd:=eu_.1 hd
  have ha:=h a (by simp)
  have h1:=wT l (m.erase a) hd.2 (fun x hx=>(List.mem_erase_of_ne (a:=x) (b:=a) (fun e:x=a=>hd.1 (e ▸ hx))).2 (h x (ar_ _ hx)))
  rw[List.length_erase_of_mem ha] at h1
  have:1≤m.length:=List.length_pos_of_mem ha
  rw[ak_]
  omega
end
theorem O8 {f:List ab} (hf:f.length≤60) : ∀(ys pre:List ab) (acc:List am),f=pre++ys→acc.length≤pre.length→lB f (f.length:Int) (pre.length:Int) acc=some ((acc++ci ys,()),())
 | [],pre,acc,h,ha=>by
  rw[yJ,aD (bj h)]
  simp[ci]
 | y :: ys,pre,acc,h,ha=>by
  have hlen:pre.length≤60:=by
   have:=congrArg al_ h
   simp only[ae_,ak_] at this
   omega
  have ih:=O8 hf ys (pre++[y])
  rw[yJ,aI (bA h),bD h,aK h (by omega)]
  simp only[yZ,ab_]
  have hsum:acc++[dn y]++ci ys=acc++(dn y :: ci ys):=by simp
  have happ:(acc.length+([dn y]:List am).length)*32≤140737488355328:=by simp only[ac_]; omega
  by_cases h2:y.1=2
  ·rw[af_ (by simpa using h2),bg happ,ih (acc++[dn y]) (aB h) (by simp only[ae_,ac_]; omega),hsum]
   simp[ci,r9,h2]
  ·rw[ad_ (by simpa using h2)]
   by_cases h3:y.1=3
   ·rw[af_ (by simpa using h3),bg happ,ih (acc++[dn y]) (aB h) (by simp only[ae_,ac_]; omega),hsum]
    simp[ci,r9,h3]
   ·rw[ad_ (by simpa using h3),ih acc (aB h) (by simp only[ae_,ac_]; omega)]
    simp[ci,r9,h2,h3]
theorem O9 {f:List ab} (hl:f.length≤60):uU f=some ((ci f,()),()):=by
 rw[Qb,show(0:Int)=(([]:List ab).length:Int) from rfl,O8 hl f [] [] rfl (aq_ _)]
 rfl
theorem Pa {f:List ab} (hf:f.length≤60) : ∀(ys pre:List ab) (acc:List am),f=pre++ys→acc.length≤pre.length→lC f (pre.length:Int) acc=some ((acc++ci ys,()),())
 | [],pre,acc,h,ha=>by
  rw[yK,aD (bj h)]
  simp[ci]
 | y :: ys,pre,acc,h,ha=>by
  have hlen:pre.length≤60:=by
   have:=congrArg al_ h
   simp only[ae_,ak_] at this
   omega
  have ih:=Pa hf ys (pre++[y])
  rw[yK,aI (bA h),bD h,aK h (by omega)]
  have hsum:acc++[dn y]++ci ys=acc++(dn y :: ci ys):=by simp
  have happ : ∀ a:am,(acc.length+([a]:List am).length)*32≤140737488355328:=fun a=>by simp only[ac_]; omega
  by_cases h2:y.1=2
  ·have ha2:(y.2.2.2.1.1,y.2.2.2.1.1,())=dn y:=by unfold dn; rw[af_ h2]
   rw[af_ (by simpa using h2)]
   simp only[bD h]
   rw[ha2,bg (happ _),ih (acc++[dn y]) (aB h) (by simp only[ae_,ac_]; omega),hsum]
   simp[ci,r9,h2]
  ·have ha3:(y.2.2.2.1.1,y.2.2.2.2.1.1,())=dn y:=by unfold dn; rw[ad_ h2]
   rw[ad_ (by simpa using h2)]
   by_cases h3:y.1=3
   ·rw[af_ (by simpa using h3)]
    simp only[bD h]
    rw[ha3,bg (happ _),ih (acc++[dn y]) (aB h) (by simp only[ae_,ac_]; omega),hsum]
    simp[ci,r9,h3]
   ·rw[ad_ (by simpa using h3),ih acc (aB h) (by simp only[ae_,ac_]; omega)]
    simp[ci,r9,h2,h3]
theorem abg {f:List ab} (hf:fg f=true):Fd f=some ((ci f,()),()):=by
 have hs:=sN hf
 have hl:=hs.1
 rw[Qg,lr (f:=f) (by omega) hs.2.1 hs.2.2,hf]
 simp only[ab_,bc_,aj_,if_false]
 rw[show(0:Int)=(([]:List ab).length:Int) from rfl,Pa hl f [] [] rfl (aq_ _)]
 rfl
noncomputable def fy (x:aa_):List am:=ci ((cZ x).getD [])
theorem HT (f:List ab):(ci f).length≤f.length:=by
 unfold ci
 rw[bp_]
 exact en_ _ _
theorem Ji {x:aa_} (hx:x.size≤9223372036854775807):((cZ x).getD []).length≤60:=by
 cases h:cZ x with
 | none=>exact dd_ _
 | some f=>exact(sN (k8 h hx)).1
theorem pE {x:aa_} (hx:x.size≤9223372036854775807):(fy x).length≤60:=bn_ (HT _) (Ji hx)
theorem sd {x:aa_} (hx:x.size≤9223372036854775807):rg x=some ((fy x,()),()):=by
 rw[Qh,Y6 hx,ab_]
 unfold fy
 cases h:cZ x with
 | none=>rfl
 | some f =>
  dsimp only[Option.isSome_some,cw_]
  rw[ad_ (by decide),abg (k8 h hx)]
  rfl
theorem Yr {ar:List am} {r:ah} (hl:ar.length≤1000000000):ce ar (ar.length:Int) 0 r=some ((mD (fun a=>dK a r) ar 0,()),(r,())):=by
 have:=vC (s:=ar) (d:=ay.dflt) (p:=fun a=>dK a r) (P:=fun j=>ce ar (ar.length:Int) j r) (F:=fun j=>some ((j,()),(r,()))) (by omega) (fun j=>by
  rw[gB]
  simp only[Em,vq,ab_]) ar [] rfl
 exact this
theorem Z3 {ar:List am} {n i:Int} {r:ah}:eT ar n i r.1 r.2.1=ce ar n i r:=by
 rw[nc,gB]
 simp only[S9,Em] <;> rfl
theorem Ys {ar:List am} (r:ah) (hl:ar.length≤1000000000):Sw ar r=some ((ar.any fun a=>dK a r,()),()):=by
 rw[XB,m8,oP,Z3,Yr hl]
 simp only[ab_,AK]
theorem EG {l:List ah} {r:ah} (hl:l.length≤1000000000) : ∀(ys pre:List ah),l=pre++ys→wj l (pre.length:Int) r.1 r.2.1=some ((decide (r∈ys),()),())
 | [],pre,h=>by
  rw[CC,aD (bj h)]
  simp
 | y :: ys,pre,h=>by
  rw[CC,aI (bA h),bD h,aK h (by omega),EG hl ys _ (aB h)]
  show(if bk ak y r=true then _ else _)=_
  by_cases e:y=r
  ·rw[af_ (by rw[im]; exact e)]
   simp[e]
  ·rw[ad_ (by rw[im]; exact e)]
   simp[Ne.symm e]
theorem wU {l:List ah} (r:ah) (hl:l.length≤1000000000):nQ l r=some ((decide (r∈l),()),()):=by
 rw[Vu]
 exact EG hl l [] rfl
theorem Z4 {l:List ah} {r:ah} (hl:l.length≤1000000000):lJ l r=some ((decide (r∈l),()),()):=by
 have h:fR l (l.length:Int) 0 r.1 r.2.1=some ((mD (fun y=>bk ak r y) l 0,()),()):=vC (s:=l) (d:=ak.dflt) (p:=fun y=>bk ak r y) (P:=fun j=>fR l (l.length:Int) j r.1 r.2.1) (F:=fun j=>some ((j,()),())) (by omega) (fun j=>xp) l [] rfl
 rw[xo,Bt,h]
 simp only[ab_,AK]
 have e:(l.any fun y=>bk ak r y)=decide (r∈l):=by
  rw[bw_,eo_,ai_]
  constructor
  ·rintro⟨y,hy,h⟩
   rw[im] at h
   rw[h]
   exact hy
  ·intro h
   exact⟨r,h,by rw[im]⟩
 rw[e]
section
variable {s:List ae} (hl:s.length≤1000000) {ar:List am} (ha:ar.length≤1000000)
include hl ha
theorem Pb {y:ae} {pre ys:List ae} (h:s=pre++y :: ys) {acc:List ah} : ∀(bs pa:List am) (b:Bool),ar=pa++bs→nW s (pre.length:Int) b (pa.length:Int) acc ar=if(b || bs.any fun a=>dK a y.1)=true then app acc [y.1] 16 (fun y3=>jP s (ha_ hb_ ((pre.length:Int)+1)) y3 ar) else jP s (ha_ hb_ ((pre.length:Int)+1)) acc ar
 | [],pa,b,e=>by
  rw[yO,aD (bj e),bD h,List.any_nil,Bool.or_false]
 | a :: bs,pa,b,e=>by
  have ih:=Pb h (acc:=acc) bs (pa++[a])
  rw[yO,aI (bA e),aK e (by omega)]
  cases b with
  | true =>
   rw[af_ rfl,ih true (aB e)]
   simp only[Bool.true_or]
  | false =>
   have hg:au_ ar (ap_ (pa.length:Int)) ay.dflt=a:=by rw[e]; exact eX
   rw[ad_ (by decide),bD h,gA e,hg,qw,ab_,ih _ (aB e)]
   simp only[List.any_cons,ct_]
theorem Da : ∀(ys pre:List ae) (acc:List ah),s=pre++ys→acc.length≤pre.length→jP s (pre.length:Int) acc ar=some ((acc++(ys.filter fun c=>ar.any fun a=>dK a c.1).map (·.1),()),())
 | [],pre,acc,h,hb=>by
  rw[yM,aD (bj h)]
  simp
 | y :: ys,pre,acc,h,hb=>by
  have hlen:s.length=pre.length+(ys.length+1):=by rw[h]; simp
  have e:=Pb hl ha h (acc:=acc) ar [] false rfl
  rw[yM,aI (bA h)]
  refine e.trans ?_
  rw[aK h (by omega),ct_]
  by_cases c:(ar.any fun a=>dK a y.1)=true
  ·rw[af_ c,bg (by simp only[ac_]; omega),Da ys _ _ (aB h) (by simp only[ae_,ac_]; omega),fe_ (p:=fun c:ae=>ar.any fun a=>dK a c.1) c]
   simp
  ·rw[ad_ c,Da ys _ _ (aB h) (by simp only[ae_,ac_]; omega),et_ (p:=fun c:ae=>ar.any fun a=>dK a c.1) c]
end
theorem Yt {s:List ae} (h:be s=true) (r:ah):(cN r s).size≤200:=by
 rcases O1 (q:=r) (fk h) with⟨c,hc,_,e⟩ | ⟨_,e⟩
 ·rw[←e]
  exact qC h c hc
 ·rw[e]
  decide
theorem Z5 {s:List ae} (h:be s=true) (r:ah):oO s r=some (((s.filter fun c=>(fy (cN r s)).any fun a=>dK a c.1).map (·.1),()),()):=by
 have h1:=bE h
 have h2:(cN r s).size≤9223372036854775807:=bn_ (Yt h r) (by decide)
 have h3:=pE h2
 rw[Qj,OZ (by omega),ab_,sd h2,ab_]
 dsimp only
 exact Da (by omega) (by omega) s [] [] rfl (aq_ _)
theorem Z6 (s:List ae) (ar:List am):(tu s ar).map (bb s)=(s.filter fun c=>ar.any fun a=>dK a c.1).map (·.1):=by
 have key : ∀ t:List ae,(bs_ s.length).map (fun i=>s.getD i av.dflt)=t→(tu s ar).map (bb s)=(t.filter fun c=>ar.any fun a=>dK a c.1).map (·.1):=by
  rintro _ rfl
  rw[gb_,fk_]
  rfl
 exact key s (C9 s _)
theorem RR {s:List ae} (h:jj s) {i:Nat} (hi:i < s.length):cN (bb s i) s=ge s i:=sO h (rB hi)
theorem Pc {s:List ae} (h:be s=true) {i:Nat} (hi:i < s.length):oO s (bb s i)=some (((cd s i).map (bb s),()),()):=by
 rw[Z5 h,RR (fk h) hi]
 unfold cd
 rw[Z6]
 rfl
theorem Ws {s pre ys:List ae} {y:ae} (h:s=pre++y :: ys):bb s pre.length=y.1:=by
 unfold bb
 rw[h,ao_]
 simp
noncomputable def gF (s:List ae):List (List ab):=s.map fun c=>(cZ c.2.1).getD []
noncomputable def gL (s:List ae):List (List Int):=s.map fun c=>(tu s (fy c.2.1)).map fun k:Nat=>(k:Int)
noncomputable def gr (s:List ae):List ae×(List (List ab)×(List (List Int)×Unit)):=(s,gF s,gL s,())
theorem Y8 {s:List ae} {i:Nat} (h:i < s.length):(gF s)[i]? = some ((cZ (ge s i)).getD []):=by
 unfold gF
 rw[gf_,pD (d:=av.dflt) h]
 rfl
theorem T9 {s:List ae} {i:Nat} (h:i < s.length):(gL s)[i]? = some ((cd s i).map fun k:Nat=>(k:Int)):=by
 unfold gL
 rw[gf_,pD (d:=av.dflt) h]
 rfl
theorem zi (s:List ae) (ar:List am):(tu s ar).length≤s.length:=by
 unfold tu
 have:=en_ (fun k=>ar.any fun a=>dK a (bb s k)) (bs_ s.length)
 rw[fq_] at this
 exact this
section
variable {s:List ae} (hl:s.length≤1000000) (hs : ∀ c∈s,c.2.1.size≤9223372036854775807)
include hl
theorem Pd {x0 x1:List ae} {x2 x3:Int} {x7 x11:List ae} {x12 x14:List (List ab)} {x13 x15:List (List Int)} {f:List ab} {ar:List am} (ha:ar.length≤1000000) : ∀(ys pre:List ae) (acc:List Int),s=pre++ys→acc.length≤pre.length →
  mo x0 x1 x2 x3 s (s.length:Int) (pre.length:Int) x7 f ar acc x11 x12 x13 x14 x15=app x14 [f] 24 fun y3=>app x15 [acc++((List.range' pre.length ys.length).filter fun k=>ar.any fun a=>dK a (bb s k)).map fun k:Nat=>(k:Int)] 24 fun y4=>mj x0 x1 x2 (ha_ hb_ (x3+1)) x7 x11 x12 x13 y3 y4
 | [],pre,acc,h,hb=>by
  rw[wB,aD (bj h)]
  simp
 | y :: ys,pre,acc,h,hb=>by
  have hlen:s.length=pre.length+(ys.length+1):=by rw[h]; simp
  have ih:=Pd (x0:=x0) (x1:=x1) (x2:=x2) (x3:=x3) (x7:=x7) (x11:=x11) (x12:=x12) (x13:=x13) (x14:=x14) (x15:=x15) (f:=f) ha ys (pre++[y])
  have e0:(pre++[y]).length=pre.length+1:=by simp
  rw[wB,aI (bA h),bD h,Ys _ (by omega),ab_,aK h (by omega)]
  rw[ak_,List.range'_succ,List.filter_cons,Ws h]
  rw[e0] at ih
  dsimp only
  by_cases c:(ar.any fun a=>dK a y.1)=true
  ·rw[af_ c,af_ c,bg (by simp only[ac_]; omega),e0,ih _ (aB h) (by simp only[ae_,ac_]; omega)]
   simp
  ·rw[ad_ c,ad_ c,e0,ih _ (aB h) (by omega)]
include hs
theorem KX : ∀(ys pre:List ae) (fs:List (List ab)) (ls:List (List Int)),s=pre++ys→fs.length=pre.length→ls.length=pre.length →
  mj s s (s.length:Int) (pre.length:Int) s [] [] [] fs ls=some (((s,fs++ys.map (fun c=>(cZ c.2.1).getD []),ls++ys.map (fun c=>(tu s (fy c.2.1)).map fun k:Nat=>(k:Int)),()),()),())
 | [],pre,fs,ls,h,h1,h2=>by
  rw[wt,aD (bj h)]
  simp
 | y :: ys,pre,fs,ls,h,h1,h2=>by
  have hlen:s.length=pre.length+(ys.length+1):=by rw[h]; simp
  have hy:y.2.1.size≤9223372036854775807:=hs y (by rw[h]; simp)
  have h3:=pE hy
  have hg:=Pd hl (x0:=s) (x1:=s) (x2:=(s.length:Int)) (x3:=(pre.length:Int)) (x7:=s) (x11:=[]) (x12:=[]) (x13:=[]) (x14:=fs) (x15:=ls) (f:=(cZ y.2.1).getD []) (ar:=fy y.2.1) (by omega) s [] [] rfl (aq_ _)
  rw[wt,aI (bA h),bD h,Y5 hy,ab_,O9 (Ji hy),ab_]
  refine hg.trans ?_
  rw[bg (by simp only[ac_]; omega),bg (by simp only[ac_]; omega),aK h (by omega),KX ys _ _ _ (aB h) (by simp[h1]) (by simp[h2])]
  have e:((List.range' ([]:List ae).length s.length).filter fun k=>(fy y.2.1).any fun a=>dK a (bb s k))=tu s (fy y.2.1):=by
   unfold tu
   rw[List.range_eq_range']
   rfl
  rw[e]
  simp
theorem Pe:Ck s=some ((gr s,()),()):=by
 rw[Ny]
 exact KX hl hs s [] [] [] rfl rfl rfl
end
open Classical in
noncomputable def xB (s:List ae) (i:Nat):Bool:=decide (dV (cd s) i i)
open Classical in
theorem mE {s:List ae} {i:Nat}:xB s i=true↔dV (cd s) i i:=by
 unfold xB
 exact⟨fun h=>of_decide_eq_true h,fun h=>bd_ h⟩
theorem ug : ∀(l:List Bool) (i:Nat),i < l.length→l.getD i false=false→(l.set i true).count false+1=l.count false
 | [],i,h,_=>by simp at h
 | b :: l,0,_,e=>by
  have e:b=false:=e
  subst e
  simp
 | b :: l,i+1,h,e=>by
  have:=ug l i (by simpa using h) e
  rw[List.set_cons_succ,List.count_cons,List.count_cons]
  omega
theorem rD (l:List Bool) (i k:Nat) (h:i < l.length):(l.set i true).getD k false=if k=i then true else l.getD k false:=by
 rw[ao_,ao_,List.getElem?_set]
 by_cases e:k=i
 ·subst e
  simp[h]
 ·rw[ad_ (fun x=>e x.symm),ad_ e]
theorem vD : ∀(n:Nat) (l:List Nat),l.Nodup→(∀ k∈l,k < n)→l.length≤n
 | 0,l,_,h=>by
  cases l with
  | nil=>exact aq_ _
  | cons a l=>have:=h a (by simp); omega
 | n+1,l,hd,h=>by
  by_cases hm:n∈l
  ·have h1:=vD n (l.erase n) (hd.erase n) (fun k hk=>by
    have h2:=(hd.mem_erase_iff).1 hk
    have:=h k h2.2
    have:=h2.1
    omega)
   rw[List.length_erase_of_mem hm] at h1
   omega
  ·have h1:=vD n l hd (fun k hk=>by
    have:=h k hk
    have:k≠n:=fun e=>hm (e ▸ hk)
    omega)
   omega
theorem RU {s:List ae} {i:Nat} (h:i < s.length):bb s i=s[i].1:=by
 unfold bb
 rw[ao_,as_ h]
 rfl
theorem Wt {s:List ae} (hs:jj s) {i j:Nat} (h:i < j) (hj:j < s.length):bM (bb s i) (bb s j)=true:=by
 have hi:i < s.length:=by omega
 rw[RU hi,RU hj]
 exact List.pairwise_iff_getElem.1 hs i j hi hj h
theorem Jj {s:List ae} (hs:jj s) {i j:Nat} (hi:i < s.length) (hj:j < s.length) (h:bb s i=bb s j):i=j:=by
 rcases Nat.lt_trichotomy i j with k | k | k
 ·exact bk_ h (vz (Wt hs k hj))
 ·exact k
 ·exact bk_ h.symm (vz (Wt hs k hi))
theorem Wu {s:List ae} (hs:jj s) {k:Nat} {t:List Nat} (hk:k < s.length) (ht : ∀ j∈t,j < s.length):bb s k∈t.map (bb s)↔k∈t:=by
 rw[fa_]
 constructor
 ·rintro⟨j,hj,e⟩
  rw[←Jj hs (ht j hj) hk e]
  exact hj
 ·intro h
  exact⟨k,h,rfl⟩
theorem mF {s:List ae} {i k:Nat} (h:k∈cd s i):k < s.length:=ds_.1 (L2 i k h)
theorem dV.lt {s:List ae} {i k:Nat} (h:dV (cd s) i k):k < s.length:=by
 cases h with
 | one e=>exact mF e
 | more _ e=>exact mF e
section
variable {s:List ae} (hn:s.length≤120)
include hn
theorem xC {a:Nat} (ha:a < s.length) : ∀(m:Nat) (met:List Bool) (pre ys:List Nat),met.length=s.length→(∀ k∈pre++ys,k < s.length∧dV (cd s) a k)→(∀ k∈cd s a,k∈pre++ys)→(∀ k∈pre,k≠a)→(∀ k∈pre,met.getD k false=true)→(∀ k,met.getD k false=true → ∀ j∈cd s k,j∈pre++ys) →
  met.count false*120+ys.length≤m→met.count false*120+pre.length+ys.length≤20000→f0 (a:Int) (pre.length:Int) s (gF s) (gL s) met ((pre++ys).map fun k:Nat=>(k:Int))=some ((xB s a,()),())
 | m,met,pre,[],h0,h1,h2,h3,h4,h5,hm,hb=>by
  have e:xB s a=false:=by
   rw[cm_,ne_eq,mE]
   intro h
   have:=dV.closed (Q:=fun k=>k∈pre) (fun k hk=>by simpa using h2 k hk) (fun j hj k hk=>by simpa using h5 j (h4 j hj) k hk) h
   exact h3 _ this rfl
  rw[qM,aD (by simp),e]
 | 0,met,pre,y :: ys,h0,h1,h2,h3,h4,h5,hm,hb=>by
  rw[ak_] at hm
  omega
 | m+1,met,pre,y :: ys,h0,h1,h2,h3,h4,h5,hm,hb=>by
  rw[ak_] at hm hb
  obtain⟨hy,hr⟩:=h1 y (by simp)
  have hg:au_ ((pre++y :: ys).map fun k:Nat=>(k:Int)) (ap_ (pre.length:Int)) 0=(y:Int):=by
   rw[ao_]
   simp
  have hlt:(pre.length:Int) < (((pre++y :: ys).map fun k:Nat=>(k:Int)).length:Int):=by
   simp only[bp_,ae_,ak_]
   omega
  have hw:IntKind.i64.wrap ((pre.length:Int)+1)=((pre++[y]).length:Int):=by
   rw[fx (by omega) (by omega)]
   simp
  have hmet:ap_ (y:Int)=y:=rfl
  rw[qM,aI hlt,bI (nn _) hlt,hg]
  by_cases e:y=a
  ·subst e
   rw[af_ (beq_self_eq_true _),mE.2 hr]
  ·rw[ad_ (by rw[beq_iff_eq]; omega),bI (xs:=met) (nn _) (by omega),hmet]
   by_cases hc:met.getD y false=true
   ·rw[hc,ad_ (by decide),hw,show pre++y :: ys=(pre++[y])++ys by simp]
    refine xC ha m met (pre++[y]) ys h0 (fun k hk=>h1 k (by simpa using hk)) (fun k hk=>by simpa using h2 k hk) (fun k hk => ?_) (fun k hk => ?_) (fun k hk j hj=>by simpa using h5 k hk j hj) (by omega) (by simp only[ae_,ac_]; omega)
    ·rcases bo_.1 hk with hk | hk
     ·exact h3 k hk
     ·rw[bh_.1 hk]
      exact e
    ·rcases bo_.1 hk with hk | hk
     ·exact h4 k hk
     ·rw[bh_.1 hk]
      exact hc
   ·have hc:met.getD y false=false:=by simpa using hc
    have hcs:=ug met y (by omega) hc
    have hil:=zi s (KV s y)
    have hil:(cd s y).length≤s.length:=hil
    rw[hc,af_ (by decide),bI (xs:=met) (nn _) (by omega),sP (T9 hy),bg (by simp only[bp_,ae_,ak_]; omega),hw]
    have eq:((pre++y :: ys).map fun k:Nat=>(k:Int))++((cd s y).map fun k:Nat=>(k:Int))=(((pre++[y])++(ys++cd s y)).map fun k:Nat=>(k:Int)):=by simp
    have em : ∀ k,k∈(pre++[y])++(ys++cd s y)↔k∈pre++y :: ys∨k∈cd s y:=fun k=>by simp[or_assoc]
    rw[eq]
    refine xC ha m (met.set y true) (pre++[y]) (ys++cd s y) (by rw[el_]; exact h0) (fun k hk => ?_) (fun k hk=>(em k).2 (.inl (h2 k hk))) (fun k hk => ?_) (fun k hk => ?_) (fun k hk j hj => ?_) (by rw[ae_]; omega) (by simp only[ae_,ac_]; omega)
    ·rcases(em k).1 hk with hk | hk
     ·exact h1 k hk
     ·exact⟨mF hk,.more hr hk⟩
    ·rcases bo_.1 hk with hk | hk
     ·exact h3 k hk
     ·rw[bh_.1 hk]
      exact e
    ·rw[rD _ _ _ (by omega)]
     rcases bo_.1 hk with hk | hk
     ·rw[h4 k hk]
      split <;> rfl
     ·rw[bh_.1 hk,af_ rfl]
    ·rw[rD _ _ _ (by omega)] at hk
     rw[em]
     by_cases ek:k=y
     ·subst ek
      exact .inr hj
     ·rw[ad_ ek] at hk
      exact .inl (h5 k hk j hj)
theorem Ua {l:List Int} (h:l.length≤1000000):gf l=some ((l,()),()):=by
 rw[tM]
 unfold cP
 simp only[iB?,dite_true,ab_]
 exact af_ (by omega)
theorem Wv {a:Nat} (ha:a < s.length):lf (gr s) (a:Int)=some ((xB s a,()),()):=by
 have hil:(cd s a).length≤s.length:=zi s (KV s a)
 rw[Fj]
 show(JO (s.length:Int) 1 false fun y1=>(ix (gL s) (a:Int) ([]:(List Int)) fun y2=>((gf y2).bind fun z1=>(f0 (a:Int) 0 s (gF s) (gL s) y1 z1.1.1))))=_
 rw[GR (by omega),sP (T9 ha),Ua hn (by rw[bp_]; omega),ab_]
 have hc:(bl_ s.length false).count false=s.length:=by simp
 refine xC hn ha (s.length*120+120) (bl_ s.length false) [] (cd s a) (by simp) (fun k hk => ?_) (fun k hk=>by simpa using hk) (fun k hk=>by cases hk) (fun k hk=>by cases hk) (fun k hk j hj => ?_) (by omega) (by rw[hc,bi_]; omega)
 ·have hk:k∈cd s a:=by simpa using hk
  exact⟨mF hk,.one hk⟩
 ·rw[ao_,gx_] at hk
  split at hk <;> cases hk
end
def vF:List Nat→List Nat→List Nat
 | t,[]=>t
 | t,k :: ks=>if k∈t then vF t ks else vF (t++[k]) ks
theorem Jk : ∀(ks t:List Nat),t.Nodup→(∃ ex,vF t ks=t++ex)∧(vF t ks).Nodup ∧ ∀ j,j∈vF t ks↔j∈t∨j∈ks
 | [],t,h=>⟨⟨[],by simp[vF]⟩,h,fun j=>by simp[vF]⟩
 | k :: ks,t,h=>by
  unfold vF
  by_cases hk:k∈t
  ·rw[af_ hk]
   obtain⟨h1,h2,h3⟩:=Jk ks t h
   refine⟨h1,h2,fun j => ?_⟩
   rw[h3,bb_]
   constructor
   ·rintro(e | e)
    ·exact .inl e
    ·exact .inr (.inr e)
   ·rintro(e | e | e)
    ·exact .inl e
    ·rw[e]
     exact .inl hk
    ·exact .inr e
  ·rw[ad_ hk]
   have hd:(t++[k]).Nodup:=by
    rw[gh_]
    refine⟨h,by simp,fun a ha b hb => ?_⟩
    rw[bh_.1 hb]
    exact fun e=>hk (e ▸ ha)
   obtain⟨⟨ex,h1⟩,h2,h3⟩:=Jk ks (t++[k]) hd
   refine⟨⟨k :: ex,by rw[h1]; simp⟩,h2,fun j => ?_⟩
   rw[h3,bo_,bh_,bb_,or_assoc]
section
variable {s:List ae} (hs:be s=true)
include hs
theorem Jl {i:Int} {r:ah} {more:List Nat} (hm : ∀ k∈more,k < s.length) (hml:more.length≤120) : ∀(ys pre t:List Nat),more=pre++ys→(∀ k∈t,k < s.length)→t.length+ys.length≤1000000 →
  mq s i (pre.length:Int) r.1 r.2.1 (t.map (bb s)) (more.map (bb s))=ml s (ha_ hb_ (i+1)) r.1 r.2.1 ((vF t ys).map (bb s))
 | [],pre,t,h,ht,hb=>by
  have e:=bj h
  rw[wD,aD (by rw[bp_]; exact e)]
  rfl
 | y :: ys,pre,t,h,ht,hb=>by
  rw[ak_] at hb
  have hlen:more.length=pre.length+(ys.length+1):=by rw[h]; simp
  have hlt:(pre.length:Int) < ((more.map (bb s)).length:Int):=by rw[bp_]; exact bA h
  have hg:au_ (more.map (bb s)) (ap_ (pre.length:Int)) ak.dflt=bb s y:=by
   rw[h,ao_]
   simp
  have hy:=hm y (by rw[h]; simp)
  have hw:IntKind.i64.wrap ((pre.length:Int)+1)=((pre++[y]).length:Int):=aK h (by omega)
  rw[wD,aI hlt,bI (nn _) hlt,hg,wU _ (by rw[bp_]; omega),ab_,hw]
  have hd:decide (bb s y∈t.map (bb s))=decide (y∈t):=by
   rw[bw_,ai_,ai_]
   exact Wu (fk hs) hy ht
  dsimp only
  rw[hd]
  unfold vF
  by_cases e:y∈t
  ·rw[af_ e,bd_ e,ad_ (by decide)]
   exact Jl hm hml ys _ t (aB h) ht (by omega)
  ·rw[ad_ e,be_ e,af_ (by decide),bI (nn _) hlt,bg (by simp only[bp_,ac_]; omega),show t.map (bb s)++[bb s y]=(t++[y]).map (bb s) by simp]
   refine Jl hm hml ys _ (t++[y]) (aB h) (fun k hk => ?_) (by simp only[ae_,ac_]; omega)
   rcases bo_.1 hk with hk | hk
   ·exact ht k hk
   ·rw[bh_.1 hk]
    exact hy
theorem Pf {a:Nat} (ha:a < s.length) : ∀(m:Nat) (pre ys:List Nat),(pre++ys).Nodup→(∀ k∈pre++ys,k < s.length∧dV (cd s) a k)→(∀ k∈cd s a,k∈pre++ys)→(∀ k∈pre,k≠a)→(∀ k∈pre,∀ j∈cd s k,j∈pre++ys)→s.length≤pre.length+m →
  ml s (pre.length:Int) (bb s a).1 (bb s a).2.1 ((pre++ys).map (bb s))=some ((xB s a,()),())
 | m,pre,[],hd,h1,h2,h3,h5,hm=>by
  have e:xB s a=false:=by
   rw[cm_,ne_eq,mE]
   intro h
   have:=dV.closed (Q:=fun k=>k∈pre) (fun k hk=>by simpa using h2 k hk) (fun j hj k hk=>by simpa using h5 j hj k hk) h
   exact h3 _ this rfl
  rw[wx,aD (by simp),e]
 | 0,pre,y :: ys,hd,h1,h2,h3,h5,hm=>by
  have:=vD s.length _ hd fun k hk=>(h1 k hk).1
  rw[ae_,ak_] at this
  omega
 | m+1,pre,y :: ys,hd,h1,h2,h3,h5,hm=>by
  have hn:=bE hs
  have hl:=vD s.length _ hd fun k hk=>(h1 k hk).1
  rw[ae_,ak_] at hl
  obtain⟨hy,hr⟩:=h1 y (by simp)
  have hg:au_ ((pre++y :: ys).map (bb s)) (ap_ (pre.length:Int)) ak.dflt=bb s y:=by
   rw[ao_]
   simp
  have hlt:(pre.length:Int) < (((pre++y :: ys).map (bb s)).length:Int):=by
   simp only[bp_,ae_,ak_]
   omega
  have hw:IntKind.i64.wrap ((pre.length:Int)+1)=((pre++[y]).length:Int):=by
   rw[fx (by omega) (by omega)]
   simp
  rw[wx,aI hlt,bI (nn _) hlt,hg]
  show(if bk ak (bb s y) (bb s a)=true then _ else _)=_
  by_cases e:y=a
  ·subst e
   rw[af_ (by rw[im]),mE.2 hr]
  ·have e' : ¬bb s y=bb s a:=fun k=>e (Jj (fk hs) hy ha k)
   have hil:(cd s y).length≤s.length:=zi s (KV s y)
   rw[ad_ (by rw[im]; exact e'),bI (nn _) hlt,Pc hs hy,ab_]
   have hin:=Jl hs (i:=(pre.length:Int)) (r:=bb s a) (more:=cd s y) (fun k hk=>mF hk) (by omega) (cd s y) [] (pre++y :: ys) rfl (fun k hk=>(h1 k hk).1) (by simp only[ae_,ak_]; omega)
   refine hin.trans ?_
   obtain⟨⟨ex,x1⟩,x2,x3⟩:=Jk (cd s y) (pre++y :: ys) hd
   have x4:vF (pre++y :: ys) (cd s y)=(pre++[y])++(ys++ex):=by rw[x1]; simp
   rw[x4] at x2 x3
   rw[x4,hw]
   refine Pf ha m (pre++[y]) (ys++ex) x2 (fun k hk => ?_) (fun k hk=>(x3 k).2 (.inl (h2 k hk))) (fun k hk => ?_) (fun k hk j hj => ?_) (by simp only[ae_,ac_]; omega)
   ·rcases(x3 k).1 hk with hk | hk
    ·exact h1 k hk
    ·exact⟨mF hk,.more hr hk⟩
   ·rcases bo_.1 hk with hk | hk
    ·exact h3 k hk
    ·rw[bh_.1 hk]
     exact e
   ·rcases bo_.1 hk with hk | hk
    ·exact(x3 j).2 (.inl (h5 k hk j hj))
    ·rw[bh_.1 hk] at hj
     exact(x3 j).2 (.inr hj)
theorem Ww (i:Nat):(cd s i).Nodup:=by
 unfold cd tu
 exact List.Pairwise.filter _ List.nodup_range
theorem Ub {a:Nat} (ha:a < s.length):wd s (bb s a)=some ((xB s a,()),()):=by
 rw[NF,Pc hs ha,ab_]
 refine Pf hs ha s.length [] (cd s a) (Ww hs a) (fun k hk => ?_) (fun k hk=>by simpa using hk) (fun k hk=>by cases hk) (fun k hk=>by cases hk) (by omega)
 have hk:k∈cd s a:=by simpa using hk
 exact⟨mF hk,.one hk⟩
end
theorem hJ (s:List ae) (F:Nat→ac):(bc s F).length=s.length:=by
 unfold bc
 rw[bp_,fq_]
theorem AM {s:List ae} {F:Nat→ac} {i:Nat} (h:i < s.length):(bc s F)[i]? = some (bb s i,F i,()):=by
 unfold bc
 rw[gf_,List.getElem?_range h]
 rfl
theorem Wx {s:List ae} {F:Nat→ac} {i:Nat} (h:i < s.length) (d:aj):(bc s F).getD i d=(bb s i,F i,()):=by
 rw[ao_,AM h]
 rfl
theorem Db {s:List ae} {F G:Nat→ac} (h : ∀ k,k < s.length→F k=G k):bc s F=bc s G:=by
 unfold bc
 refine ev_ fun k hk => ?_
 rw[h k (ds_.1 hk)]
def Bm (F:Nat→ac) (i:Nat) (v:ac):Nat→ac:=fun k=>if k=i then v else F k
theorem Yu {s:List ae} {F:Nat→ac} {i:Nat} (v:ac) (h:i < s.length):(bc s F).set i (bb s i,v,())=bc s (Bm F i v):=by
 apply List.ext_getElem?
 intro k
 rw[List.getElem?_set,hJ]
 by_cases e:i=k
 ·subst e
  rw[af_ rfl,af_ h,AM h]
  unfold Bm
  rw[af_ rfl]
 ·rw[ad_ e]
  by_cases hk:k < s.length
  ·rw[AM hk,AM hk]
   unfold Bm
   rw[ad_ (fun x=>e x.symm)]
  ·rw[cd_ (by rw[hJ]; omega),cd_ (by rw[hJ]; omega)]
theorem FL {β:Type} {s:List ae} {F:Nat→ac} {i:Nat} (v:ac) (h:i < s.length) (k:List aj→β):sV aw.dflt (bc s F) (i:Int) (fun e=>(e.1,v,())) k=k (bc s (Bm F i v)):=by
 unfold sV
 rw[bu_,Wx h,Yu v h]
theorem EH (s:List ae) (F:Nat→ac):(bc s F).map (·.1)=s.map (·.1):=by
 have key : ∀ t:List ae,(bs_ s.length).map (fun i=>s.getD i av.dflt)=t→(bc s F).map (·.1)=t.map (·.1):=by
  rintro _ rfl
  unfold bc
  rw[fk_,fk_]
  rfl
 exact key s (C9 s _)
theorem la {s:List ae} {F:Nat→ac} (hs:be s=true) (hF : ∀ k,k < s.length→aA (F k)=true):kW (bc s F)=true:=by
 have h1:=bE hs
 have h2:=fk hs
 have h3:=(ob.1 hs).2.1
 unfold kW
 rw[ah_,ah_,ai_,ck_,hJ,EH]
 refine⟨by omega,fun c hc => ?_,OQ ?_ (fun a e=>by cases e)⟩
 ·unfold bc at hc
  obtain⟨k,hk,rfl⟩:=fa_.1 hc
  have hk:=ds_.1 hk
  rw[ah_]
  exact⟨(h3 _ (rB hk)).1,hF k hk⟩
 ·exact List.Pairwise.map _ (fun a b h=>h) h2
theorem Wy (w:ap):aA (bJ w).1=true:=by
 cases h:(bJ w).2 with
 | true=>exact(oT h).1
 | false =>
  rw[Of h]
  exact NY
theorem Dc {f:List ab} {l:List aj} (h1:fg f=true) (h2:kW l=true):aA (fN f l)=true:=by
 have hs:=sN h1
 have hll:l.length≤120:=by
  unfold kW at h2
  simp only[ah_,ai_] at h2
  omega
 have hv:=mz h2
 have hl:=hs.1
 obtain⟨_,e3⟩:=Rs (f:=f) (l:=l) (by omega) (fun c hc=>bn_ (dE (hv c hc)) (by decide)) (by omega) hs.2.1 hs.2.2 h1 h2
 unfold fN
 dsimp only
 split
 ·decide
 ·exact e3
theorem HU {α β:Type} {xs:List α} {i:Int} {k:Option β} (h : ¬(0≤i∧i < (xs.length:Int))):inb xs i k=none:=by
 unfold inb
 by_cases h0:0≤i
 ·rw[af_ h0,ad_ fun h1=>h ⟨h0,h1⟩]
 ·rw[ad_ h0]
theorem Wz (g:List ae×(List (List ab)×(List (List Int)×Unit))) : ∀(n:Nat) (i:Int) (done:List Bool) (out:List aj),done.count false≤n→cG i g.1 g.2.1 g.2.2.1 done out=bK i g done out:=by
 intro n
 induction n with
 | zero =>
  intro i done out hc
  rw[gP,cp]
  by_cases hin:0≤i∧i < (done.length:Int)
  ·simp only[bI hin.1 hin.2]
   by_cases hd:au_ done i.toNat false=true
   ·rw[af_ hd,af_ hd]
   ·have:=ug done i.toNat (by omega) (by simpa using hd)
    omega
  ·rw[HU hin,HU hin]
 | succ n ih =>
  intro i done out hc
  rw[gP,cp]
  by_cases hin:0≤i∧i < (done.length:Int)
  ·simp only[bI hin.1 hin.2]
   by_cases hd:au_ done i.toNat false=true
   ·rw[af_ hd,af_ hd]
   ·have hcs:=ug done i.toNat (by omega) (by simpa using hd)
    have key : ∀ y5:List Int,d9 i y5 (y5.length:Int) 0 g.1 g.2.1 g.2.2.1 (done.set i.toNat true) out=cn i y5 (y5.length:Int) 0 g (done.set i.toNat true) out:=by
     intro y5
     rw[lM,fF]
     have k2 : ∀ y,cG y g.1 g.2.1 g.2.2.1 (done.set i.toNat true) out=bK y g (done.set i.toNat true) out:=fun y=>ih y _ out (by omega)
     simp only[k2]
    simp only[key]
  ·rw[HU hin,HU hin]
theorem Z7 {x0:Int} {x1:List Int} {x2 x3:Int} {g:List ae×(List (List ab)×(List (List Int)×Unit))} {done:List Bool} {out:List aj}:cn x0 x1 x2 x3 g done out=bX x0 x1 x2 x3 g done out:=by
 rw[fF,dv]
section
variable {s:List ae} (hs:be s=true) {told:Nat→Bool} {given:Nat→ac}
include hs
theorem eu (i:Nat):(ge s i).size≤9223372036854775807:=by
 by_cases h:i < s.length
 ·exact bn_ (qC hs _ (rB h)) (by decide)
 ·unfold ge
  rw[ao_,cd_ (by omega)]
  decide
structure FM (s:List ae) (told:Nat→Bool) (given:Nat→ac) (P:Nat→Prop) (done:List Bool) (F:Nat→ac):Prop where
 len:done.length=s.length
 val : ∀ k,k < s.length→done.getD k false=true→P k∨F k=dj s told given k
 ok : ∀ k,k < s.length→aA (F k)=true
 told : ∀ k,k < s.length→told k=true→done.getD k false=true
structure AN (s:List ae) (done done':List Bool):Prop where
 cnt:done'.count false≤done.count false
 mono : ∀ k,done.getD k false=true→done'.getD k false=true
omit hs in
theorem AN.trans {s:List ae} {a b c:List Bool} (h:AN s a b) (k:AN s b c):AN s a c:=⟨bn_ k.cnt h.cnt,fun j hj=>k.mono j (h.mono j hj)⟩
def abh (s:List ae) (told:Nat→Bool) (given:Nat→ac) (n:Nat):Prop := ∀(i:Nat) (P:Nat→Prop) (done:List Bool) (F:Nat→ac),i < s.length→FM s told given P done F→(∀ p,P p → ¬dV (cd s) p p∧dV (cd s) p i)→done.count false≤n →
 ∃ done' F',bK (i:Int) (gr s) done (bc s F)=some ((()),(done',gr s,bc s F',()))∧FM s told given P done' F'∧AN s done done'∧done'.getD i false=true
theorem Yv {f:List ab} {F:Nat→ac} {i:Nat} (hf:cZ (ge s i)=some f) (ho : ∀ k,k < s.length→aA (F k)=true) (h : ∀ k∈cd s i,F k=dj s told given k) (ht:told i=false) (hr : ¬dV (cd s) i i):tD f (bc s F)=some ((dj s told given i,()),()):=by
 have hok:=k8 hf (eu hs i)
 have hsm:=sN hok
 have hl:=hsm.1
 have hn:=bE hs
 have hv:=la hs ho
 have e:fN f (bc s F)=dj s told given i:=by
  rw[AJ (eu hs i) hf h,rA (eu hs) i,ad_ (by simp[ht]),hf]
  simp only[ad_ hr]
 rw[Oa (by rw[hJ]; omega) (fun c hc=>bn_ (dE (mz hv c hc)) (by decide)) (by omega) hsm.2.1 hsm.2.2 hok hv,e]
theorem KY {n:Nat} (R:abh s told given n) {i:Nat} (hi:i < s.length) {f:List ab} (hf:cZ (ge s i)=some f) (hr : ¬dV (cd s) i i) (ht:told i=false) {P:Nat→Prop} (hP : ∀ p,P p → ¬dV (cd s) p p∧dV (cd s) p i) :
  ∀(ys pre:List Nat) (done:List Bool) (F:Nat→ac),cd s i=pre++ys→FM s told given (fun k=>P k∨k=i) done F→done.count false≤n→(∀ k∈pre,done.getD k false=true)→done.getD i false=true →
  ∃ done' F',bX (i:Int) ((cd s i).map fun k:Nat=>(k:Int)) ((cd s i).length:Int) (pre.length:Int) (gr s) done (bc s F)=some ((()),(done',gr s,bc s F',()))∧FM s told given P done' F'∧AN s done done'∧done'.getD i false=true
 | [],pre,done,F,h,hI,hc,hp,hdi=>by
  have hpre:cd s i=pre:=by rw[h]; simp
  have hval : ∀ k∈cd s i,F k=dj s told given k:=by
   intro k hk
   have hk':k∈pre:=hpre ▸ hk
   rcases hI.val k (mF hk) (hp k hk') with(e | e) | e
   ·exact bk_ (dV.more (hP k e).2 hk) (hP k e).1
   ·rw[e] at hk
    exact bk_ (dV.one hk) hr
   ·exact e
  have hev:=Yv hs hf hI.ok hval ht hr
  have hv:aA (dj s told given i)=true:=by
   have:=Dc (k8 hf (eu hs i)) (la hs hI.ok)
   rw[AJ (eu hs i) hf hval] at this
   rw[rA (eu hs) i,ad_ (by simp[ht]),hf]
   simp only[ad_ hr]
   exact this
  refine⟨done,Bm F i (dj s told given i),?_,⟨hI.len,fun k hk hd => ?_,fun k hk => ?_,hI.told⟩,⟨aq_ _,fun _ h=>h⟩,hdi⟩
  ·rw[dv,aD (by rw[hpre]; omega)]
   show(ix (gF s) (i:Int) ([]:(List ab)) fun y2=>((tD y2 (bc s F)).bind fun z2=>(inb (bc s F) (i:Int) (sV (aw.dflt) (bc s F) (i:Int) (fun e=>(e.1,z2.1.1,())) fun w3=>(some ((()),(done,gr s,w3,())))))))=_
   rw[sP (Y8 hi),hf]
   show((tD f (bc s F)).bind fun z2=>_)=_
   rw[hev,ab_,bI (nn _) (by rw[hJ]; omega),FL _ hi]
  ·unfold Bm
   by_cases e:k=i
   ·rw[af_ e,e]
    exact .inr rfl
   ·rw[ad_ e]
    rcases hI.val k hk hd with(h1 | h1) | h1
    ·exact .inl h1
    ·exact bk_ h1 e
    ·exact .inr h1
  ·unfold Bm
   by_cases e:k=i
   ·rw[af_ e]
    exact hv
   ·rw[ad_ e]
    exact hI.ok k hk
 | y :: ys,pre,done,F,h,hI,hc,hp,hdi=>by
  have hy:y∈cd s i:=by rw[h]; simp
  have hyl:=mF hy
  have hil:(cd s i).length≤s.length:=zi s (KV s i)
  have hn:=bE hs
  have hlt:((pre.length:Nat):Int) < ((cd s i).length:Int):=bA h
  have hw:IntKind.i64.wrap ((pre.length:Int)+1)=((pre++[y]).length:Int):=aK h (by omega)
  have hg:((cd s i).map fun k:Nat=>(k:Int))[pre.length]? = some (y:Int):=by
   rw[h]
   simp
  obtain⟨done1,F1,e1,I1,N1,d1⟩:=R y (fun k=>P k∨k=i) done F hyl hI (fun p hp'=>by
   rcases hp' with hp' | hp'
   ·exact⟨(hP p hp').1,.more (hP p hp').2 hy⟩
   ·rw[hp']
    exact⟨hr,.one hy⟩) hc
  obtain⟨done2,F2,e2,I2,N2,d2⟩:=KY R hi hf hr ht hP ys (pre++[y]) done1 F1 (aB h) I1 (bn_ N1.cnt hc) (fun k hk=>by
   rcases bo_.1 hk with hk | hk
   ·exact N1.mono k (hp k hk)
   ·rw[bh_.1 hk]
    exact d1) (N1.mono i hdi)
  refine⟨done2,F2,?_,I2,N1.trans N2,d2⟩
  rw[dv,aI hlt,sP hg,e1,ab_,hw]
  exact e2
theorem Yw : ∀ n:Nat,abh s told given n:=by
 intro n
 induction n with
 | zero =>
  intro i P done F hi hI hP hc
  by_cases hd:done.getD i false=true
  ·refine⟨done,F,?_,hI,⟨aq_ _,fun _ h=>h⟩,hd⟩
   rw[cp,bI (nn _) (by rw[hI.len]; omega),bu_,af_ hd]
  ·have:=ug done i (by rw[hI.len]; exact hi) (by simpa using hd)
   omega
 | succ n R =>
  intro i P done F hi hI hP hc
  by_cases hd:done.getD i false=true
  ·refine⟨done,F,?_,hI,⟨aq_ _,fun _ h=>h⟩,hd⟩
   rw[cp,bI (nn _) (by rw[hI.len]; omega),bu_,af_ hd]
  ·have hil:i < done.length:=by rw[hI.len]; exact hi
   have hd':done.getD i false=false:=by simpa using hd
   have hcs:=ug done i hil hd'
   have ht:told i=false:=by
    rw[cm_]
    intro h
    exact hd (hI.told i hi h)
   have hset:(done.set i true).getD i false=true:=by rw[rD _ _ _ hil,af_ rfl]
   have hnext:AN s done (done.set i true):=⟨by omega,fun k hk=>by
    rw[rD _ _ _ hil]
    split
    ·rfl
    ·exact hk⟩
   have hstep : ∀ v,aA v=true→v=dj s told given i→FM s told given P (done.set i true) (Bm F i v):=by
    intro v hv ev
    refine⟨by rw[el_]; exact hI.len,fun k hk hdk => ?_,fun k hk => ?_,fun k hk htk=>hnext.mono k (hI.told k hk htk)⟩
    ·unfold Bm
     rw[rD _ _ _ hil] at hdk
     by_cases e:k=i
     ·rw[af_ e,e]
      exact .inr ev
     ·rw[ad_ e] at hdk ⊢
      exact hI.val k hk hdk
    ·unfold Bm
     by_cases e:k=i
     ·rw[af_ e]
      exact hv
     ·rw[ad_ e]
      exact hI.ok k hk
   have hve:=rA (told:=told) (given:=given) (eu hs) i
   rw[ad_ (by simp[ht])] at hve
   have heq:bK (i:Int) (gr s) done (bc s F)=ix (gF s) (i:Int) ([]:(List ab)) fun y1=>(if((al_ y1:Int) == 0)=true then(ix s (i:Int) (av.dflt) fun y2=>((eN y2.2.1).bind fun z1=>(inb (bc s F) (i:Int) (sV (aw.dflt) (bc s F) (i:Int) (fun e=>(e.1,z1.1.1,())) fun w3=>(some ((()),((ep_ done i true),gr s,w3,()))))))) else((lf (gr s) (i:Int)).bind fun z2=>(if z2.1.1=true then((gu 5).bind fun z3=>(inb (bc s F) (i:Int) (sV (aw.dflt) (bc s F) (i:Int) (fun e=>(e.1,z3.1.1,())) fun w4=>(some ((()),((ep_ done i true),gr s,w4,())))))) else(ix (gL s) (i:Int) ([]:(List Int)) fun y5=>(cn (i:Int) y5 (al_ y5:Int) 0 (gr s) (ep_ done i true) (bc s F)))))):=by
    rw[cp,bI (nn _) (by omega),bu_,hd',ad_ (by decide),bI (nn _) (by omega)]
    rfl
   rw[heq,sP (Y8 hi)]
   cases hf:cZ (ge s i) with
   | none =>
    rw[hf] at hve
    have hsz:=eu hs i
    have hsz2:(ge s i).size≤200:=qC hs _ (rB hi)
    have hrv:eN (ge s i)=some (((bJ (lb (ge s i))).1,(bJ (lb (ge s i))).2,()),()):=by
     have:=oA (w:=lb (ge s i)) (by rw[iA]; omega)
     rw[ec] at this
     exact this
    refine⟨done.set i true,Bm F i (bJ (lb (ge s i))).1,?_,hstep _ (Wy _) hve.symm,hnext,hset⟩
    dsimp only[Option.getD_none]
    rw[af_ (by rfl),sP (pD (d:=av.dflt) hi)]
    show((eN (ge s i)).bind fun z1=>_)=_
    rw[hrv,ab_,bI (nn _) (by rw[hJ]; omega),FL _ hi]
   | some f =>
    rw[hf] at hve
    have hok:=k8 hf (eu hs i)
    have hfl:1≤f.length:=by
     have hb:cq (f.length:Int) 1 60=true:=by
      unfold fg at hok
      simp only[ah_] at hok
      exact hok.1
     have:=bC.1 hb
     omega
    dsimp only[cw_]
    rw[ad_ (by rw[beq_iff_eq]; omega),Wv (bE hs) hi,ab_]
    dsimp only
    by_cases hr:dV (cd s) i i
    ·simp only[af_ hr] at hve
     refine⟨done.set i true,Bm F i (vE 5),?_,hstep _ (nf (by decide) (by decide)) hve.symm,hnext,hset⟩
     rw[mE.2 hr,af_ rfl,gC,ab_,bI (nn _) (by rw[hJ]; omega),FL _ hi]
    ·have hrb:xB s i=false:=by
      rw[cm_,ne_eq,mE]
      exact hr
     have hI':FM s told given (fun k=>P k∨k=i) (done.set i true) F:=by
      refine⟨by rw[el_]; exact hI.len,fun k hk hdk => ?_,hI.ok,fun k hk htk=>hnext.mono k (hI.told k hk htk)⟩
      rw[rD _ _ _ hil] at hdk
      by_cases e:k=i
      ·exact .inl (.inr e)
      ·rw[ad_ e] at hdk
       rcases hI.val k hk hdk with h1 | h1
       ·exact .inl (.inl h1)
       ·exact .inr h1
     obtain⟨done',F',e1,I1,N1,d1⟩:=KY hs R hi hf hr ht hP (cd s i) [] (done.set i true) F rfl hI' (by omega) (fun k hk=>by cases hk) hset
     refine⟨done',F',?_,I1,hnext.trans N1,d1⟩
     rw[hrb,ad_ (by decide),sP (T9 hi),Z7,bp_]
     exact e1
theorem Pg : ∀(m i:Nat) (done:List Bool) (F:Nat→ac),i+m=s.length→FM s told given (fun _=>False) done F→(∀ k,k < i→done.getD k false=true) →
  gz (s.length:Int) (i:Int) (bc s F) (gr s) done=some ((bc s (dj s told given),()),())
 | 0,i,done,F,h,hI,hd=>by
  rw[ko,aD (by omega)]
  rw[Db fun k hk=>(hI.val k hk (hd k (by omega))).resolve_left id]
 | m+1,i,done,F,h,hI,hd=>by
  have hn:=bE hs
  obtain⟨done',F',e1,I1,N1,d1⟩:=Yw hs (told:=told) (given:=given) (done.count false) i (fun _=>False) done F (by omega) hI (fun p hp=>hp.elim) (aq_ _)
  rw[ko,aI (by omega),e1,ab_,fx (by omega) (by omega)]
  have:=Pg m (i+1) done' F' (by omega) I1 (fun k hk=>by
   by_cases e:k=i
   ·rw[e]
    exact d1
   ·exact N1.mono k (hd k (by omega)))
  exact this
theorem Uc {done:List Bool} {F:Nat→ac}:j6 (s.length:Int) 0 (bc s F) s (gF s) (gL s) done=gz (s.length:Int) 0 (bc s F) (gr s) done:=by
 rw[Aj,ko]
 have:=Wz (gr s) (done.count false) 0 done (bc s F) (aq_ _)
 rw[←this]
 rfl
theorem Qv {l:List Bool} (h:l.length≤1000000):iR l=some ((l,()),()):=by
 rw[sA]
 unfold cP
 simp only[iB?,dite_true,ab_]
 exact af_ (by omega)
theorem Ph {gv:List ac} (hg:gv.length=s.length) {td:List Bool} : ∀(ys pre:List ae) (o:List aj),s=pre++ys→o.length=ys.length →
  iW gv s (s.length:Int) (pre.length:Int) s (gF s) (gL s) td (((bs_ pre.length).map fun k=>(bb s k,gv.getD k v0,()))++o)=j6 (s.length:Int) 0 (bc s fun k=>gv.getD k v0) s (gF s) (gL s) td
 | [],pre,o,h,ho=>by
  have e:pre=s:=by rw[h]; simp
  rw[qN,aD (bj h),List.eq_nil_of_length_eq_zero ho,bx_,bp_,fq_,e]
  rfl
 | y :: ys,pre,o,h,ho=>by
  have hn:=bE hs
  have hlen:s.length=pre.length+(ys.length+1):=by rw[h]; simp
  cases o with
  | nil=>cases ho
  | cons z o =>
   have e0:((bs_ pre.length).map fun k=>(bb s k,gv.getD k v0,())).length=pre.length:=by rw[bp_,fq_]
   have hi:pre.length < gv.length:=by omega
   rw[qN,aI (bA h),bD h,sP (pD (d:=v0) hi),bI (nn _) (by simp only[ae_,ak_,bp_,fq_]; omega),aK h (by omega)]
   have ih:=Ph hg (td:=td) ys (pre++[y]) o (aB h) (by simpa using ho)
   have e1:ep_ (((bs_ pre.length).map fun k=>(bb s k,gv.getD k v0,()))++z :: o) (ap_ (pre.length:Int)) (y.1,gv.getD (ap_ (pre.length:Int)) v0,())=((bs_ (pre++[y]).length).map fun k=>(bb s k,gv.getD k v0,()))++o:=by
    have:=UX (l:=(bs_ pre.length).map fun k=>((bb s k,gv.getD k v0,()):aj)) (r:=o) (y:=z) (z:=(y.1,gv.getD (ap_ (pre.length:Int)) v0,()))
    rw[e0] at this
    rw[this,ae_,ac_,List.range_succ,List.map_append,List.append_assoc,List.map_singleton,Ws h]
    rfl
   refine Eq.trans ?_ ih
   exact congrArg _ e1
theorem Qw {td:List Bool} {gv:List ac} (h1:td.length=s.length) (h2:gv.length=s.length) (h3 : ∀ v∈gv,aA v=true) (ht : ∀ k,k < s.length→told k=td.getD k false) (hg : ∀ k,k < s.length→given k=gv.getD k v0):s5 (gr s) td gv=some ((bc s (dj s told given),()),()):=by
 have hn:=bE hs
 rw[Fk,Qv hs (by omega),ab_]
 show(JO (s.length:Int) 48 (aw.dflt) fun y1=>(iW gv s (s.length:Int) 0 s (gF s) (gL s) td y1))=_
 rw[GR (by omega)]
 have:=Ph hs h2 (td:=td) s [] (bl_ s.length aw.dflt) rfl (by simp)
 refine Eq.trans this ?_
 rw[Uc hs]
 refine Pg hs s.length 0 td _ (by omega) ⟨h1,fun k hk hd => .inr ?_,fun k hk => ?_,fun k hk h=>by rw[←ht k hk]; exact h⟩ (fun k hk=>by omega)
 ·rw[rA (eu hs) k,af_ (by rw[ht k hk]; exact hd),hg k hk]
 ·exact h3 _ (rB (by omega))
end
def dH (s:List ae) (V:Nat→ac) (pend:List Nat):List aj:=((bs_ s.length).filter fun k => !decide (k∈pend)).map fun k=>(bb s k,V k,())
theorem AO (s:List ae) (V:Nat→ac) (pend:List Nat):(dH s V pend).Sublist (bc s V):=List.Sublist.map _ List.filter_sublist
theorem Yx (s:List ae) (V:Nat→ac):dH s V []=bc s V:=by
 unfold dH bc
 rw[List.filter_eq_self.2 fun k hk=>by simp]
theorem FN {s:List ae} {V:Nat→ac} {pend:List Nat} {c:aj}:c∈dH s V pend ↔ ∃ k,k < s.length∧k ∉ pend∧(bb s k,V k,())=c:=by
 unfold dH
 rw[fa_]
 constructor
 ·rintro⟨k,hk,e⟩
  rw[dp_,ds_] at hk
  exact⟨k,hk.1,by simpa using hk.2,e⟩
 ·rintro⟨k,h1,h2,e⟩
  exact⟨k,dp_.2 ⟨ds_.2 h1,by simpa using h2⟩,e⟩
theorem Yy {l m:List aj} (hs:l.Sublist m) (h:kW m=true):kW l=true:=by
 unfold kW at h ⊢
 simp only[ah_,ai_,ck_] at h ⊢
 obtain⟨h1,h2,h3⟩:=h
 have hl:=hs.length_le
 refine⟨by omega,fun c hc=>h2 c (hs.subset hc),?_⟩
 exact OQ (List.Pairwise.sublist (List.Sublist.map _ hs) (VK h3)) (fun a e=>by cases e)
theorem Z8 {s:List ae} {V:Nat→ac} (h:jj s):(bc s V).Pairwise fun a b=>bM a.1 b.1=true:=by
 have h1:((bc s V).map (·.1)).Pairwise fun a b=>bM a b=true:=by
  rw[EH]
  exact List.Pairwise.map _ (fun a b h=>h) h
 exact List.pairwise_map.1 h1
theorem Yz {s:List ae} {V:Nat→ac} {pend:List Nat} {ar:List am} (h : ∀ k∈tu s ar,k ∉ pend):kt ar (dH s V pend)=kt ar (bc s V):=by
 unfold kt dH bc
 rw[gb_,gb_,List.filter_filter]
 congr 1
 refine List.filter_congr fun k hk => ?_
 show((ar.any fun a=>dK a (bb s k)) && !decide (k∈pend))=ar.any fun a=>dK a (bb s k)
 cases hc:(ar.any fun a=>dK a (bb s k)) with
 | false=>rfl
 | true =>
  have:=h k (RO.2 ⟨ds_.1 hk,hc⟩)
  simp[this]
def vG (c:aj):List aj→List aj
 | []=>[c]
 | y :: ys=>if jE y.1 c.1=true then y :: vG c ys else c :: y :: ys
theorem Dd (c:aj) : ∀ l:List aj,(vG c l).Perm (c :: l)
 | [] => .refl _
 | y :: ys=>by
  unfold vG
  split
  ·exact((Dd c ys).cons y).trans (.swap c y ys)
  ·exact .refl _
theorem RX {c:aj} : ∀ {l:List aj},(l.Pairwise fun a b=>bM a.1 b.1=true)→(∀ y∈l,y.1≠c.1)→(vG c l).Pairwise fun a b=>bM a.1 b.1=true
 | [],_,_=>by simp[vG]
 | y :: ys,h,hn=>by
  have h':=bq_.1 h
  unfold vG
  by_cases k:jE y.1 c.1=true
  ·rw[af_ k]
   refine bq_.2 ⟨fun z hz => ?_,RX h'.2 fun z hz=>hn z (ar_ _ hz)⟩
   rcases bb_.1 ((Dd c ys).mem_iff.1 hz) with rfl | hz
   ·exact k
   ·exact h'.1 z hz
  ·rw[ad_ k]
   have hc:bM c.1 y.1=true:=by
    rcases oa y.1 c.1 with e | e | e
    ·exact bk_ e k
    ·exact bk_ e (hn y (by simp))
    ·exact e
   refine bq_.2 ⟨fun z hz => ?_,h⟩
   rcases bb_.1 hz with rfl | hz
   ·exact hc
   ·exact gm hc (h'.1 z hz)
theorem Pi {l:List aj} {c:aj} (hl:l.length≤2000000) : ∀(ys pre:List aj),l=pre++ys→wk l (pre.length:Int) c.1 c.2.1=some ((pre++vG c ys,()),())
 | [],pre,h=>by
  have hlen:l.length=pre.length:=by rw[h]; simp
  rw[CD,aD (bj h),GS (nn _) (by omega),bg (by simp only[bi_,cc_]; omega),bg (by simp only[ae_,bi_,cc_,ac_]; omega),GT (nn _) (by omega),bg (by simp only[ae_,bi_,cc_,ac_,dk_]; omega)]
  rw[h]
  simp[vG]
 | y :: ys,pre,h=>by
  have hlen:l.length=pre.length+(ys.length+1):=by rw[h]; simp
  rw[CD,aI (bA h),bD h,CQ,ab_]
  dsimp only
  unfold vG
  by_cases k:jE y.1 c.1=true
  ·rw[af_ k,af_ k,aK h (by omega),Pi hl ys _ (aB h)]
   simp
  ·rw[ad_ k,ad_ k,GS (nn _) (by omega),bg (by simp only[bi_,cc_]; omega),bg (by simp only[ae_,bi_,cc_,ac_]; omega),GT (nn _) (by omega),bg (by simp only[ae_,bi_,cc_,ac_,dk_]; omega)]
   rw[h]
   simp
theorem WA {l:List aj} (c:aj) (hl:l.length≤2000000):lg l c=some ((vG c l,()),()):=by
 rw[Vv]
 exact Pi hl l [] rfl
theorem YA {s:List ae} {V:Nat→ac} (hs:jj s) {p q:List Nat} {j:Nat} (hj:j < s.length) (hp:j∈p) (hq : ∀ k,k∈q↔k∈p∧k≠j):vG (bb s j,V j,()) (dH s V p)=dH s V q:=by
 have pw:=fun r=>List.Pairwise.sublist (AO s V r) (Z8 (V:=V) hs)
 refine O0 (lt:=fun a b:aj=>bM a.1 b.1) (fun x=>qB _) (fun x y z h k=>gm h k) (RX (pw p) fun y hy => ?_) (pw q) fun y => ?_
 ·obtain⟨k,h1,h2,rfl⟩:=FN.1 hy
  intro e
  have:=Jj hs h1 hj e
  exact h2 (this ▸ hp)
 ·rw[(Dd _ _).mem_iff,bb_,FN,FN]
  constructor
  ·rintro(rfl | ⟨k,h1,h2,rfl⟩)
   ·exact⟨j,hj,fun h=>((hq j).1 h).2 rfl,rfl⟩
   ·exact⟨k,h1,fun h=>h2 ((hq k).1 h).1,rfl⟩
  ·rintro⟨k,h1,h2,rfl⟩
   by_cases e:k=j
   ·subst e
    exact .inl rfl
   ·exact .inr ⟨k,h1,fun h=>h2 ((hq k).2 ⟨h,e⟩),rfl⟩
section
variable {s:List ae} (hs:be s=true) {told:Nat→Bool} {given:Nat→ac} (hg : ∀ k,k < s.length→aA (given k)=true)
include hs hg
theorem RY : ∀(n k:Nat),k < s.length→aA (lO s told given n k)=true
 | 0,k,hk=>NY
 | n+1,k,hk=>by
  unfold lO
  split
  ·exact hg k hk
  ·cases hf:cZ (ge s k) with
   | none=>exact Wy _
   | some f =>
    dsimp only
    split
    ·exact nf (by decide) (by decide)
    ·exact Dc (k8 hf (eu hs k)) (la hs fun j hj=>RY n j hj)
theorem RZ {k:Nat} (hk:k < s.length):aA (dj s told given k)=true:=RY hs hg _ k hk
theorem Z9 (p:List Nat):kW (dH s (dj s told given) p)=true:=Yy (AO _ _ _) (la hs fun k hk=>RZ hs hg hk)
theorem WB {f:List ab} {i:Nat} {p:List Nat} (hf:cZ (ge s i)=some f) (h : ∀ k∈cd s i,k ∉ p) (ht:told i=false) (hr : ¬dV (cd s) i i):tE f (dH s (dj s told given) p)=some ((dj s told given i,()),()):=by
 have hok:=k8 hf (eu hs i)
 have hsm:=sN hok
 have hl:=hsm.1
 have hn:=bE hs
 have hv:=Z9 (told:=told) hs hg p
 have hdl:=(AO s (dj s told given) p).length_le
 rw[hJ] at hdl
 have e:fN f (dH s (dj s told given) p)=dj s told given i:=by
  rw[rA (eu hs) i,ad_ (by simp[ht]),hf]
  simp only[ad_ hr]
  refine KW hok (Yz fun k hk=>h k ?_)
  unfold cd KV
  rw[hf]
  exact hk
 rw[N9 (by omega) (fun c hc=>bn_ (dE (mz hv c hc)) (by decide)) (by omega) hsm.2.1 hsm.2.2]
 unfold LZ
 rw[af_ hok,af_ hv,e]
theorem aaa {p q:List Nat} {j:Nat} (hj:j < s.length) (hp:j∈p) (hq : ∀ k,k∈q↔k∈p∧k≠j):lg (dH s (dj s told given) p) (bb s j,dj s told given j,())=some ((dH s (dj s told given) q,()),()):=by
 have hn:=bE hs
 have hdl:=(AO s (dj s told given) p).length_le
 rw[hJ] at hdl
 rw[WA _ (by omega),YA (fk hs) hj hp hq]
omit hg in
theorem HV {t:List Nat} {k:Nat} (hk:k < s.length) (ht : ∀ j∈t,j < s.length) (hl:t.length≤1000000):nQ (t.map (bb s)) (bb s k)=some ((decide (k∈t),()),()):=by
 rw[wU _ (by rw[bp_]; omega)]
 have:decide (bb s k∈t.map (bb s))=decide (k∈t):=by
  rw[bw_,ai_,ai_]
  exact Wu (fk hs) hk ht
 rw[this]
def io (lft rest:List Nat) (i:Nat) (k:Nat):Bool:=decide (k∈lft.drop i) || decide (k∈rest)
section
variable {lft rest:List Nat} (hlf : ∀ k∈lft,k < s.length) (hre : ∀ k∈rest,k < s.length) (hll:lft.length≤120) (hrl:rest.length≤120)
include hlf hre hll hrl
omit hg in
theorem rE {i:Nat} (hi:i < lft.length) {f:List ab} {a b:Int} {c:aa_} {done:List aj} {ln:List Nat} (hln : ∀ k∈ln,k < s.length) (hlnl:ln.length≤120) : ∀(ys pre:List Nat) (w:Bool),ln=pre++ys →
  fw s (i:Int) w (pre.length:Int) done (lft.map (bb s)) (rest.map (bb s)) f a b c (ln.map (bb s)) =
  if(w || ys.any (io lft rest i))=true then(ix (lft.map (bb s)) (i:Int) (ak.dflt) fun y2=>(app (rest.map (bb s)) ([y2]:(List ah)) 16 fun y3=>(eH s (ha_ hb_ ((i:Int)+1)) done (lft.map (bb s)) y3)))
  else((tE f done).bind fun z3=>(ix (lft.map (bb s)) (i:Int) (ak.dflt) fun y4=>((lg done (y4,z3.1.1,())).bind fun z4=>(eH s (ha_ hb_ ((i:Int)+1)) z4.1.1 (lft.map (bb s)) (rest.map (bb s))))))
 | [],pre,w,h=>by
  have e:=bj h
  rw[wJ,aD (by rw[bp_]; exact e),List.any_nil,Bool.or_false]
 | y :: ys,pre,w,h=>by
  have hlen:ln.length=pre.length+(ys.length+1):=by rw[h]; simp
  have hlt:(pre.length:Int) < ((ln.map (bb s)).length:Int):=by rw[bp_]; exact bA h
  have hgt:au_ (ln.map (bb s)) (ap_ (pre.length:Int)) ak.dflt=bb s y:=by
   rw[h,ao_]
   simp
  have hy:=hln y (by rw[h]; simp)
  have hw:IntKind.i64.wrap ((pre.length:Int)+1)=((pre++[y]).length:Int):=aK h (by omega)
  rw[wJ,aI hlt,hw]
  cases w with
  | true =>
   rw[af_ rfl,rE hi hln hlnl ys _ true (aB h)]
   simp only[Bool.true_or]
  | false =>
   have hdr:List.drop ((i:Int).toNat) (lft.map (bb s))=(lft.drop i).map (bb s):=by rw[bu_,List.map_drop]
   rw[ad_ (by decide),GT (nn _) (by rw[bp_]; omega),hdr,bI (nn _) hlt,hgt,HV hs hy (fun j hj=>hlf j (List.mem_of_mem_drop hj)) (by rw[dk_]; omega),ab_]
   dsimp only
   have hany:(y :: ys).any (io lft rest i)=(io lft rest i y || ys.any (io lft rest i)):=List.any_cons
   by_cases h1:y∈lft.drop i
   ·have hwt:io lft rest i y=true:=by
     unfold io
     simp[h1]
    rw[bd_ h1,af_ rfl,rE hi hln hlnl ys _ true (aB h),hany,hwt]
    simp only[Bool.true_or,ct_]
   ·have hwt:io lft rest i y=decide (y∈rest):=by
     unfold io
     simp[h1]
    rw[be_ h1,ad_ (by decide),bI (nn _) hlt,HV hs hy hre (by omega),ab_]
    dsimp only
    rw[rE hi hln hlnl ys _ _ (aB h),hany,hwt]
    simp only[ct_]
omit hg in
theorem aab {i:Nat} (hi:i < lft.length) {f:List ab} {a b:Int} {c:aa_} {done:List aj} {ln:List Nat} (hln : ∀ k∈ln,k < s.length) (hlnl:ln.length≤120) :
  r7 s (i:Int) false 0 done (lft.map (bb s)) (rest.map (bb s)) f a b c (ln.map (bb s)) =
  if(ln.any (io lft rest i))=true then(ix (lft.map (bb s)) (i:Int) (ak.dflt) fun y2=>(app (rest.map (bb s)) ([y2]:(List ah)) 16 fun y3=>(eH s (ha_ hb_ ((i:Int)+1)) done (lft.map (bb s)) y3)))
  else if ln=[] then((tE f done).bind fun z3=>(ix (lft.map (bb s)) (i:Int) (ak.dflt) fun y4=>((lg done (y4,z3.1.1,())).bind fun z4=>(iu s (ha_ hb_ ((i:Int)+1)) z4.1.1 (lft.map (bb s)) (rest.map (bb s))))))
  else((tE f done).bind fun z3=>(ix (lft.map (bb s)) (i:Int) (ak.dflt) fun y4=>((lg done (y4,z3.1.1,())).bind fun z4=>(eH s (ha_ hb_ ((i:Int)+1)) z4.1.1 (lft.map (bb s)) (rest.map (bb s)))))):=by
 have hlt':(i:Int) < ((lft.map (bb s)).length:Int):=by rw[bp_]; omega
 cases ln with
 | nil =>
  rw[yR,aD (by simp),ad_ (by decide),ad_ (by simp),af_ rfl]
  congr 1
 | cons y ys =>
  have hlt:(0:Int) < (((y :: ys).map (bb s)).length:Int):=by simp only[cs_,ak_]; omega
  have hgt:au_ ((y :: ys).map (bb s)) (ap_ (0:Int)) ak.dflt=bb s y:=rfl
  have hy:=hln y (by simp)
  have hw:IntKind.i64.wrap ((0:Int)+1)=(([y]:List Nat).length:Int):=by
   show IntKind.i64.wrap ((0:Int)+1)=(1:Int)
   decide
  have hdr:List.drop ((i:Int).toNat) (lft.map (bb s))=(lft.drop i).map (bb s):=by rw[bu_,List.map_drop]
  rw[yR,aI hlt,hw,ad_ (by decide),GT (nn _) (by rw[bp_]; omega),hdr,bI (cj_ 0) hlt,hgt,HV hs hy (fun j hj=>hlf j (List.mem_of_mem_drop hj)) (by rw[dk_]; omega),ab_]
  dsimp only
  rw[ad_ (show ¬(y :: ys)=[] by simp)]
  have hany:(y :: ys).any (io lft rest i)=(io lft rest i y || ys.any (io lft rest i)):=List.any_cons
  by_cases h1:y∈lft.drop i
  ·have hwt:io lft rest i y=true:=by
    unfold io
    simp[h1]
   rw[bd_ h1,af_ rfl,rE hs hlf hre hll hrl hi hln hlnl ys [y] true rfl,hany,hwt]
  ·have hwt:io lft rest i y=decide (y∈rest):=by
    unfold io
    simp[h1]
   rw[be_ h1,ad_ (by decide),bI (cj_ 0) hlt,HV hs hy hre (by omega),ab_]
   dsimp only
   rw[rE hs hlf hre hll hrl hi hln hlnl ys [y] _ rfl,hany,hwt]
end
def L4 (s:List ae) (lft:List Nat) (j:Nat):Prop:=cZ (ge s j)=none∨dV (cd s) j j ∨ ∀ k∈cd s j,k ∉ lft
theorem AP {lft:List Nat} (hd:lft.Nodup) (hlf : ∀ k∈lft,k < s.length∧told k=false) : ∀(ys pre rest:List Nat),lft=pre++ys→rest.Sublist pre→(∀ k∈rest,¬L4 s lft k) →
  ∃ rest',iu s (pre.length:Int) (dH s (dj s told given) (rest++ys)) (lft.map (bb s)) (rest.map (bb s))=jD s (dH s (dj s told given) rest') (rest'.map (bb s))∧eH s (pre.length:Int) (dH s (dj s told given) (rest++ys)) (lft.map (bb s)) (rest.map (bb s))=jD s (dH s (dj s told given) rest') (rest'.map (bb s))∧rest'.Sublist lft ∧ ∀ k∈rest',¬L4 s lft k
 | [],pre,rest,h,hr,hf=>by
  have e:=bj h
  have hpre:lft=pre:=by rw[h]; simp
  refine⟨rest,?_,?_,hpre ▸ hr,hf⟩
  ·rw[yQ,aD (by rw[bp_]; exact e),bx_]
  ·rw[wK,aD (by rw[bp_]; exact e),bx_]
 | y :: ys,pre,rest,h,hr,hf=>by
  have hn:=bE hs
  have hlft:=fun k hk=>(hlf k hk).1
  have hll:=vD s.length lft hd hlft
  have hlen:lft.length=pre.length+(ys.length+1):=by rw[h]; simp
  have hrl:=hr.length_le
  have hym:y∈lft:=by rw[h]; simp
  obtain⟨hy,hyt⟩:=hlf y hym
  have hlt:(pre.length:Int) < ((lft.map (bb s)).length:Int):=by rw[bp_]; exact bA h
  have hgt:au_ (lft.map (bb s)) (ap_ (pre.length:Int)) ak.dflt=bb s y:=by
   rw[h,ao_]
   simp
  have hix : ∀ {β:Type} (F:ah→Option β),ix (lft.map (bb s)) (pre.length:Int) ak.dflt F=F (bb s y):=by
   intro β F
   unfold ix
   rw[af_ (nn _),af_ hlt,hgt]
  have hw:IntKind.i64.wrap ((pre.length:Int)+1)=((pre++[y]).length:Int):=aK h (by omega)
  have hd':=hd
  rw[h,gh_] at hd'
  obtain⟨_,hd2,hd3⟩:=hd'
  have hd2:=eu_.1 hd2
  have hyr:y ∉ rest:=fun hm=>hd3 y (hr.subset hm) y (by simp) rfl
  have hq : ∀ k,k∈rest++ys↔k∈rest++y :: ys∧k≠y:=by
   intro k
   simp only[bo_,bb_]
   constructor
   ·rintro(e | e)
    ·exact⟨.inl e,fun x=>hyr (x ▸ e)⟩
    ·exact⟨.inr (.inr e),fun x=>hd2.1 (x ▸ e)⟩
   ·rintro⟨e | e | e,hne⟩
    ·exact .inl e
    ·exact bk_ e hne
    ·exact .inr e
  have hsub:rest.Sublist (pre++[y]):=hr.trans (List.sublist_append_left _ _)
  have hput:=aaa (told:=told) hs hg hy (p:=rest++y :: ys) (by simp) hq
  have ihF:=AP hd hlf ys (pre++[y]) rest (aB h) hsub hf
  have hsz:=eu hs y
  have hrv:kN (ge s y)=some (((bJ (lb (ge s y))).1,(bJ (lb (ge s y))).2,()),()):=by
   have:=oz (w:=lb (ge s y)) (by rw[iA]; omega)
   rw[ec] at this
   exact this
  have hsrc:cN (bb s y) s=ge s y:=RR (fk hs) hy
  have hve:=rA (told:=told) (given:=given) (eu hs) y
  rw[ad_ (by simp[hyt])] at hve
  rw[yQ,wK,aI hlt,aI hlt,bI (nn _) hlt,hix,hgt,OZ (by omega),hsrc]
  simp only[ab_,Y6 hsz,hrv,hw]
  cases hfo:cZ (ge s y) with
  | none =>
   rw[hfo] at hve
   simp only[Option.isSome_none,aj_,if_false,bI (nn _) hlt,hix,←hve,hput,ab_]
   exact ihF
  | some f =>
   rw[hfo] at hve
   simp only[Option.isSome_some,if_true,dA,ab_,bI (nn _) hlt,hix,Ub hs hy]
   by_cases hrc:dV (cd s) y y
   ·simp only[af_ hrc] at hve
    have hrb:=mE.2 hrc
    simp only[hrb,bc_,aj_,if_false,bI (nn _) hlt,hix]
    have e5:(vE 5)=dj s told given y:=hve.symm
    simp only[e5,hput,ab_]
    exact ihF
   ·simp only[ad_ hrc] at hve
    have hrb:xB s y=false:=by
     rw[cm_,ne_eq,mE]
     exact hrc
    have hlnl:(cd s y).length≤s.length:=zi s (KV s y)
    have hre : ∀ k∈rest,k < s.length:=fun k hk=>hlft k (by rw[h]; exact cz_ _ (hr.subset hk))
    have hfin:=aab hs hlft hre (by omega) (by omega) (i:=pre.length) (by omega) (f:=f) (a:=(vE 5).1) (b:=(vE 5).2.1) (c:=(vE 5).2.2.1) (done:=dH s (dj s told given) (rest++y :: ys)) (ln:=cd s y) (fun k hk=>mF hk) (by omega)
    have hfin2:=rE hs hlft hre (by omega) (by omega) (i:=pre.length) (by omega) (f:=f) (a:=(vE 5).1) (b:=(vE 5).2.1) (c:=(vE 5).2.2.1) (done:=dH s (dj s told given) (rest++y :: ys)) (ln:=cd s y) (fun k hk=>mF hk) (by omega) (cd s y) [] false rfl
    have hfin2:fw s (pre.length:Int) false 0 (dH s (dj s told given) (rest++y :: ys)) (lft.map (bb s)) (rest.map (bb s)) f (vE 5).1 (vE 5).2.1 (vE 5).2.2.1 ((cd s y).map (bb s))=_:=hfin2
    rw[ct_] at hfin2
    have hdrop:lft.drop pre.length=y :: ys:=by rw[h]; simp
    simp only[hrb,Bool.not_false,if_true,bI (nn _) hlt,hix,Pc hs hy,ab_,cw_,hfin,hfin2]
    by_cases hwt:(cd s y).any (io lft rest pre.length)=true
    ·have hfr : ¬L4 s lft y:=by
      rintro(e | e | e)
      ·rw[hfo] at e
       cases e
      ·exact hrc e
      ·obtain⟨k,hk,hkw⟩:=eo_.1 hwt
       refine e k hk ?_
       unfold io at hkw
       rw[cx_,ai_,ai_] at hkw
       rcases hkw with hkw | hkw
       ·exact List.mem_of_mem_drop hkw
       ·rw[h]
        exact cz_ _ (hr.subset hkw)
     have ihT:=AP hd hlf ys (pre++[y]) (rest++[y]) (aB h) (hr.append (List.Sublist.refl _)) (fun k hk=>by
      rcases bo_.1 hk with hk | hk
      ·exact hf k hk
      ·rw[bh_.1 hk]
       exact hfr)
     have e1:rest.map (bb s)++[bb s y]=(rest++[y]).map (bb s):=by simp
     have e2:(rest++[y])++ys=rest++y :: ys:=by simp
     rw[e2] at ihT
     obtain⟨rest',a1,a2,a3,a4⟩:=ihT
     simp only[af_ hwt,hix]
     rw[bg (by simp only[bp_,ac_]; omega),e1,hw]
     exact⟨rest',a2,a2,a3,a4⟩
    ·have hno : ∀ k∈cd s y,k ∉ rest++y :: ys:=by
      intro k hk hkm
      apply hwt
      rw[eo_]
      refine⟨k,hk,?_⟩
      unfold io
      rw[hdrop,cx_,ai_,ai_]
      exact(bo_.1 hkm).symm
     have hev:=WB hs hg hfo hno hyt hrc
     obtain⟨rest',a1,a2,a3,a4⟩:=ihF
     simp only[ad_ hwt,hev,ab_,hix,hput,hw]
     refine⟨rest',?_,?_,a3,a4⟩
     ·first
      | exact a1
      | exact a2
      | (split <;> first | exact a1 | exact a2)
     ·first
      | exact a1
      | exact a2
      | (split <;> first | exact a1 | exact a2)
theorem R0 : ∀(m:Nat) (lft:List Nat),lft.length≤m→lft.Nodup→(∀ k∈lft,k < s.length∧told k=false)→jD s (dH s (dj s told given) lft) (lft.map (bb s))=some ((bc s (dj s told given),()),())
 | m,[],_,_,_=>by
  rw[Be,aD (by simp),Yx]
 | 0,y :: ys,h,_,_=>by simp at h
 | m+1,y :: ys,h,hd,hlf=>by
  obtain⟨rest',a1,_,a3,a4⟩:=AP hs hg hd hlf (y :: ys) [] [] rfl (List.Sublist.refl _) (fun k hk=>by cases hk)
  have hfree : ∃ j∈y :: ys,L4 s (y :: ys) j:=by
   by_cases hx : ∃ j∈y :: ys,dV (cd s) j j
   ·obtain⟨j,h1,h2⟩:=hx
    exact⟨j,h1,.inr (.inl h2)⟩
   ·obtain⟨i,h1,h2⟩:=XU (L:=cd s) (N:=bs_ s.length) L2 (l:=y :: ys) (by simp) (fun i hi hr=>hx ⟨i,hi,hr⟩)
    exact⟨i,h1,.inr (.inr h2)⟩
  obtain⟨j,h1,h2⟩:=hfree
  have hlt:rest'.length < (y :: ys).length:=by
   rcases Nat.lt_or_ge rest'.length (y :: ys).length with e | e
   ·exact e
   ·have:=a3.eq_of_length (Nat.le_antisymm a3.length_le e)
    exact bk_ h2 (a4 j (this ▸ h1))
  have ih:=R0 m rest' (by omega) (hd.sublist a3) (fun k hk=>hlf k (a3.subset hk))
  rw[Be,aI (by simp only[cs_,ak_]; omega)]
  exact a1.trans ih
end
section
variable {s:List ae} (hs:be s=true) {known:List aj} (hk:known.length≤2000000) (hkv : ∀ c∈known,aA c.2.1=true) {ask:List ah} (ha:ask.length≤1000000)
include hs hk ha
theorem Jm : ∀(ys pre:List ae) (done:List aj) (left:List ah),s=pre++ys→done.length≤pre.length→left.length≤pre.length →
  qj s known ask (pre.length:Int) done left=jD s (done++(ys.filter fun c => !decide (c.1∈ask)).map fun c=>(c.1,fM known c.1,())) (left++(ys.filter fun c=>decide (c.1∈ask)).map (·.1))
 | [],pre,done,left,h,h1,h2=>by
  rw[Bb,aD (bj h)]
  simp
 | y :: ys,pre,done,left,h,h1,h2=>by
  have hn:=bE hs
  have hlen:s.length=pre.length+(ys.length+1):=by rw[h]; simp
  rw[Bb,aI (bA h)]
  simp only[bD h,wU _ (show ask.length≤1000000000 by omega),ab_,NX (xs:=known) (by omega)]
  rw[aK h (by omega)]
  by_cases e:y.1∈ask
  ·rw[bd_ e,af_ rfl,bg (by simp only[ac_]; omega),Jm ys _ _ _ (aB h) (by simp only[ae_,ac_]; omega) (by simp only[ae_,ac_]; omega)]
   rw[et_ (by simp[e]),fe_ (by simp[e])]
   simp
  ·rw[be_ e,ad_ (by decide),bg (by simp only[ac_]; omega),Jm ys _ _ _ (aB h) (by simp only[ae_,ac_]; omega) (by simp only[ae_,ac_]; omega)]
   rw[fe_ (by simp[e]),et_ (by simp[e])]
   simp
include hkv
theorem Ud:DA s known ask=some ((bc s (dj s (fun k => !decide (bb s k∈ask)) fun k=>fM known (bb s k)),()),()):=by
 have h0:=Jm hs hk ha s [] [] [] rfl (aq_ _) (aq_ _)
 have key : ∀ t:List ae,(bs_ s.length).map (fun i=>s.getD i av.dflt)=t→(t.filter fun c=>decide (c.1∈ask)).map (·.1)=((bs_ s.length).filter fun k=>decide (bb s k∈ask)).map (bb s)∧((t.filter fun c => !decide (c.1∈ask)).map fun c=>((c.1,fM known c.1,()):aj))=((bs_ s.length).filter fun k => !decide (bb s k∈ask)).map fun k=>(bb s k,fM known (bb s k),()):=by
  rintro _ rfl
  rw[gb_,gb_,fk_,fk_]
  exact⟨rfl,rfl⟩
 obtain⟨k1,k2⟩:=key s (C9 s _)
 have hg : ∀ k,k < s.length→aA (fM known (bb s k))=true:=fun k _=>Au hkv
 have hd:dH s (dj s (fun k => !decide (bb s k∈ask)) fun k=>fM known (bb s k)) ((bs_ s.length).filter fun k=>decide (bb s k∈ask))=((bs_ s.length).filter fun k => !decide (bb s k∈ask)).map fun k=>(bb s k,fM known (bb s k),()):=by
  unfold dH
  have e1:((bs_ s.length).filter fun k => !decide (k∈(bs_ s.length).filter fun k=>decide (bb s k∈ask)))=(bs_ s.length).filter fun k => !decide (bb s k∈ask):=by
   refine List.filter_congr fun k hk => ?_
   congr 1
   rw[bw_,ai_,ai_,dp_,ai_]
   exact⟨fun h=>h.2,fun h=>⟨hk,h⟩⟩
  rw[e1]
  refine ev_ fun k hk => ?_
  rw[dp_] at hk
  rw[rA (eu hs) k,af_ hk.2]
 rw[Tq]
 refine h0.trans ?_
 rw[da_,da_,k1,k2,←hd]
 refine R0 hs hg _ _ (aq_ _) (List.Pairwise.filter _ List.nodup_range) (fun k hk => ?_)
 rw[dp_,ds_] at hk
 exact⟨hk.1,by rw[hk.2]; rfl⟩
end
open Classical in
open Classical in
section
variable {s:List ae} (hs:be s=true) {refs:List ah} (hr:refs.length≤120)
include hs
include hr
end
section
variable {s:List ae} (hs:be s=true)
include hs
variable {refs:List ah}
end
theorem KZ {s:List ae} {t t':Nat→Bool} {g g':Nat→ac} (ht : ∀ k,k < s.length→t k=t' k) (hg : ∀ k,k < s.length→t k=true→g k=g' k) : ∀(n k:Nat),k < s.length→lO s t g n k=lO s t' g' n k
 | 0,k,hk=>rfl
 | n+1,k,hk=>by
  unfold lO
  rw[←ht k hk]
  by_cases h:t k=true
  ·rw[af_ h,af_ h,hg k hk h]
  ·rw[ad_ h,ad_ h,Db fun j hj=>KZ ht hg n j hj]
theorem WC {s:List ae} {t t':Nat→Bool} {g g':Nat→ac} (ht : ∀ k,k < s.length→t k=t' k) (hg : ∀ k,k < s.length→t k=true→g k=g' k) {k:Nat} (hk:k < s.length):dj s t g k=dj s t' g' k:=KZ ht hg _ k hk
noncomputable def De (s:List ae) (k:Nat):ac:=dj s (fun _=>false) (fun _=>v0) k
theorem K0 {α:Type} (n k:Nat) (d:α):(bl_ n d).getD k d=d:=by
 rw[ao_,gx_]
 split <;> rfl
section
variable {s:List ae} (hs:be s=true)
include hs
theorem lF : ∀ c∈s,c.2.1.size≤9223372036854775807:=fun c hc=>bn_ (qC hs c hc) (by decide)
theorem HW:uW s=some ((bc s (De s),()),()):=by
 have hn:=bE hs
 rw[Hd,Pe (by omega) (lF hs),ab_,GR (by omega),GR (by omega)]
 have e:=Qw (told:=fun _=>false) (given:=fun _=>v0) hs (td:=bl_ s.length false) (gv:=bl_ s.length aq.dflt) (by simp) (by simp) (fun v hv=>by
  rw[List.eq_of_mem_replicate hv]
  exact NY) (fun k _=>(K0 _ _ _).symm) (fun k _=>(K0 _ _ (v0:ac)).symm)
 rw[e]
 rfl
theorem Pj : ∀(ys pre:List ae) (acc:List ah),s=pre++ys→acc.length≤pre.length→wl s (pre.length:Int) acc=((DA s ([]:(List aj)) (acc++ys.map (·.1))).bind fun z1=>(some ((z1.1.1,()),(()))))
 | [],pre,acc,h,ha=>by
  rw[CE,aD (bj h)]
  simp
 | y :: ys,pre,acc,h,ha=>by
  have hn:=bE hs
  have hlen:s.length=pre.length+(ys.length+1):=by rw[h]; simp
  rw[CE,aI (bA h),bD h,bg (by simp only[ac_]; omega),aK h (by omega),Pj ys _ _ (aB h) (by simp only[ae_,ac_]; omega)]
  simp
theorem WD:M6 s=some ((bc s (De s),()),()):=by
 have hn:=bE hs
 have h0:=Pj hs s [] [] rfl (aq_ _)
 have e:bc s (dj s (fun k => !decide (bb s k∈s.map (·.1))) fun k=>fM [] (bb s k))=bc s (De s):=by
  have hm : ∀ k,k < s.length→bb s k∈s.map (·.1):=fun k hk=>fa_.2 ⟨s.getD k av.dflt,rB hk,rfl⟩
  refine Db fun k hk=>WC (fun j hj=>by rw[bd_ (hm j hj)]; rfl) (fun j hj h => ?_) hk
  rw[bd_ (hm j hj)] at h
  cases h
 rw[VB]
 refine h0.trans ?_
 rw[da_,Ud hs (known:=[]) (by simp) (fun c hc=>by cases hc) (by rw[bp_]; omega),e]
 rfl
end
section
variable {s:List ae} (h1 : ∀ c∈s,c.2.1.size≤9223372036854775807) (h2:s.length≤1000000000)
include h1 h2
variable {old:List aj} (h3 : ∀ c∈old,c.2.1.2.2.1.size≤9223372036854775807) (h4:old.length≤2000000) {ch:List ah} (h5:ch.length≤1000000000)
include h3 h4 h5
end
end Go.Proofs.YthbkdfcmjmmpgaaGreatDoor.Abs
