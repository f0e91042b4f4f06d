/- Plain laws: what comes to itself, on both sides. -/
import Derived.Test.YthbkdfcmjmmpgaaGreatDoorZM10
set_option linter.unusedVariables false
set_option linter.unusedSimpArgs false
set_option linter.unusedSectionVars false
open Bool renaming and_eq_true→ag_,eq_false_iff→cf_,eq_iff_iff→bw_,false_eq_true→ak_,false_or→cz_,or_eq_true→cx_
open Go.IntKind renaming i64→hf_,wrap→he_
open Int renaming le_refl→co_,toNat_natCast→ca_,toNat→ap_
open List renaming all_eq_true→cl_,any_eq_true→ds_,append_nil→bv_,filter_cons_of_neg→et_,filter_cons_of_pos→fi_,filter_map→gd_,foldl_cons→en_,getD_eq_getElem?_getD→ao_,getD→aw_,getElem?_eq_none→cj_,getElem?_eq_some_iff→ax_,getElem?_replicate→hb_,length_append→af_,length_cons→aj_,length_drop→dp_,length_map→bp_,length_nil→bl_,length_range→fr_,length_set→eu_,length_singleton→ad_,length_take→ci_,length→am_,map_congr_left→ew_,map_cons→dc_,map_map→fn_,mem_append_left→cq_,mem_append_right→ct_,mem_append→bo_,mem_cons_of_mem→ar_,mem_cons→bi_,mem_filter→dm_,mem_flatMap→eo_,mem_map→ea_,mem_range→dy_,mem_singleton→be_,nil_append→df_,nodup_append→gj_,pairwise_cons→ce_,range→bs_,replicate→bn_,set→fa_
open List.Pairwise renaming sublist→gp_
open Nat renaming le_refl→aq_,le_trans→bq_
open Option renaming bind_some→ab_,getD_some→de_
open _root_ renaming absurd→bh_,decide_eq_false→bf_,decide_eq_true_eq→ai_,decide_eq_true→bb_,if_neg→ac_,if_pos→ae_
namespace Go.Proofs.YthbkdfcmjmmpgaaGreatDoor.Abs
open Go
open Classical in
noncomputable def rR (s:List ae) (i:Nat):Bool:=decide (dG (bP s) i i)
open Classical in
theorem gm {s:List ae} {i:Nat}:rR s i=true↔dG (bP s) i i:=by
 unfold rR
 exact⟨fun h=>of_decide_eq_true h,fun h=>bb_ h⟩
theorem uz : ∀(l:List Bool) (i:Nat),i < l.length→l.getD i false=false→(l.set i true).count false+1=l.count false
 | [],i,h,_=>by simp at h
 | b :: l,0,_,e=>by
  have e:b=false:=e
  subst e
  simp
 | b :: l,i+1,h,e=>by
  have:=uz l i (by simpa using h) e
  rw[List.set_cons_succ,List.count_cons,List.count_cons]
  omega
theorem rS (l:List Bool) (i k:Nat) (h:i < l.length):(l.set i true).getD k false=if k=i then true else l.getD k false:=by
 rw[ao_,ao_,List.getElem?_set]
 by_cases e:k=i
 ·subst e
  simp[h]
 ·rw[ac_ (fun x=>e x.symm),ac_ e]
theorem vW : ∀(n:Nat) (l:List Nat),l.Nodup→(∀ k∈l,k < n)→l.length≤n
 | 0,l,_,h=>by
  cases l with
  | nil=>exact aq_ _
  | cons a l=>have:=h a (by simp); omega
 | n+1,l,hd,h=>by
  by_cases hm:n∈l
  ·have h1:=vW n (l.erase n) (hd.erase n) (fun k hk=>by
    have h2:=(hd.mem_erase_iff).1 hk
    have:=h k h2.2
    have:=h2.1
    omega)
   rw[List.length_erase_of_mem hm] at h1
   omega
  ·have h1:=vW n l hd (fun k hk=>by
    have:=h k hk
    have:k≠n:=fun e=>hm (e ▸ hk)
    omega)
   omega
theorem JZ {s:List ae} {i:Nat} (h:i < s.length):aN s i=s[i].1:=by
 unfold aN
 rw[ao_,List.getElem?_eq_getElem h]
 rfl
theorem Xj {s:List ae} (hs:iw s) {i j:Nat} (h:i < j) (hj:j < s.length):cl (aN s i) (aN s j)=true:=by
 have hi:i < s.length:=by omega
 rw[JZ hi,JZ hj]
 exact List.pairwise_iff_getElem.1 hs i j hi hj h
theorem zF {s:List ae} (hs:iw s) {i j:Nat} (hi:i < s.length) (hj:j < s.length) (h:aN s i=aN s j):i=j:=by
 rcases Nat.lt_trichotomy i j with k | k | k
 ·exact bh_ h (rM (Xj hs k hj))
 ·exact k
 ·exact bh_ h.symm (rM (Xj hs k hi))
theorem Xk {s:List ae} (hs:iw s) {k:Nat} {t:List Nat} (hk:k < s.length) (ht : ∀ j∈t,j < s.length):aN s k∈t.map (aN s)↔k∈t:=by
 rw[ea_]
 constructor
 ·rintro⟨j,hj,e⟩
  rw[←zF hs (ht j hj) hk e]
  exact hj
 ·intro h
  exact⟨k,h,rfl⟩
theorem mR {s:List ae} {i k:Nat} (h:k∈bP s i):k < s.length:=dy_.1 (IE i k h)
theorem dG.lt {s:List ae} {i k:Nat} (h:dG (bP s) i k):k < s.length:=by
 cases h with
 | one e=>exact mR e
 | more _ e=>exact mR e
section
variable {s:List ae} (hn:s.length≤120)
include hn
theorem xT {a:Nat} (ha:a < s.length) : ∀(m:Nat) (met:List Bool) (pre ys:List Nat),met.length=s.length→(∀ k∈pre++ys,k < s.length∧dG (bP s) a k)→(∀ k∈bP s a,k∈pre++ys)→(∀ k∈pre,k≠a)→(∀ k∈pre,met.getD k false=true)→(∀ k,met.getD k false=true → ∀ j∈bP s k,j∈pre++ys) →
  met.count false*120+ys.length≤m→met.count false*120+pre.length+ys.length≤20000→gi (a:Int) (pre.length:Int) s (gF s) (gL s) met ((pre++ys).map fun k:Nat=>(k:Int))=some ((rR s a,()),())
 | m,met,pre,[],h0,h1,h2,h3,h4,h5,hm,hb=>by
  have e:rR s a=false:=by
   rw[cf_,ne_eq,gm]
   intro h
   have:=dG.closed (Q:=fun k=>k∈pre) (fun k hk=>by simpa using h2 k hk) (fun j hj k hk=>by simpa using h5 j (h4 j hj) k hk) h
   exact h3 _ this rfl
  rw[qV,aE (by simp),e]
 | 0,met,pre,y :: ys,h0,h1,h2,h3,h4,h5,hm,hb=>by
  rw[aj_] at hm
  omega
 | m+1,met,pre,y :: ys,h0,h1,h2,h3,h4,h5,hm,hb=>by
  rw[aj_] at hm hb
  obtain⟨hy,hr⟩:=h1 y (by simp)
  have hg:aw_ ((pre++y :: ys).map fun k:Nat=>(k:Int)) (ap_ (pre.length:Int)) 0=(y:Int):=by
   rw[ao_]
   simp
  have hlt:(pre.length:Int) < (((pre++y :: ys).map fun k:Nat=>(k:Int)).length:Int):=by
   simp only[bp_,af_,aj_]
   omega
  have hw:IntKind.i64.wrap ((pre.length:Int)+1)=((pre++[y]).length:Int):=by
   rw[fW (by omega) (by omega)]
   simp
  have hmet:ap_ (y:Int)=y:=rfl
  rw[qV,aJ hlt,bO (nn _) hlt,hg]
  by_cases e:y=a
  ·subst e
   rw[ae_ (beq_self_eq_true _),gm.2 hr]
  ·rw[ac_ (by rw[beq_iff_eq]; omega),bO (xs:=met) (nn _) (by omega),hmet]
   by_cases hc:met.getD y false=true
   ·rw[hc,ac_ (by decide),hw,show pre++y :: ys=(pre++[y])++ys by simp]
    refine xT ha m met (pre++[y]) ys h0 (fun k hk=>h1 k (by simpa using hk)) (fun k hk=>by simpa using h2 k hk) (fun k hk => ?_) (fun k hk => ?_) (fun k hk j hj=>by simpa using h5 k hk j hj) (by omega) (by simp only[af_,ad_]; omega)
    ·rcases bo_.1 hk with hk | hk
     ·exact h3 k hk
     ·rw[be_.1 hk]
      exact e
    ·rcases bo_.1 hk with hk | hk
     ·exact h4 k hk
     ·rw[be_.1 hk]
      exact hc
   ·have hc:met.getD y false=false:=by simpa using hc
    have hcs:=uz met y (by omega) hc
    have hil:=zE s (s9 s y)
    have hil:(bP s y).length≤s.length:=hil
    rw[hc,ae_ (by decide),bO (xs:=met) (nn _) (by omega),tc (UZ hy),bi (by simp only[bp_,af_,aj_]; omega),hw]
    have eq:((pre++y :: ys).map fun k:Nat=>(k:Int))++((bP s y).map fun k:Nat=>(k:Int))=(((pre++[y])++(ys++bP s y)).map fun k:Nat=>(k:Int)):=by simp
    have em : ∀ k,k∈(pre++[y])++(ys++bP s y)↔k∈pre++y :: ys∨k∈bP s y:=fun k=>by simp[or_assoc]
    rw[eq]
    refine xT ha m (met.set y true) (pre++[y]) (ys++bP s y) (by rw[eu_]; exact h0) (fun k hk => ?_) (fun k hk=>(em k).2 (.inl (h2 k hk))) (fun k hk => ?_) (fun k hk => ?_) (fun k hk j hj => ?_) (by rw[af_]; omega) (by simp only[af_,ad_]; omega)
    ·rcases(em k).1 hk with hk | hk
     ·exact h1 k hk
     ·exact⟨mR hk,.more hr hk⟩
    ·rcases bo_.1 hk with hk | hk
     ·exact h3 k hk
     ·rw[be_.1 hk]
      exact e
    ·rw[rS _ _ _ (by omega)]
     rcases bo_.1 hk with hk | hk
     ·rw[h4 k hk]
      split <;> rfl
     ·rw[be_.1 hk,ae_ rfl]
    ·rw[rS _ _ _ (by omega)] at hk
     rw[em]
     by_cases ek:k=y
     ·subst ek
      exact .inr hj
     ·rw[ac_ ek] at hk
      exact .inl (h5 k hk j hj)
theorem U0 {l:List Int} (h:l.length≤1000000):gp l=some ((l,()),()):=by
 rw[tZ]
 unfold dc
 simp only[jx?,dite_true,ab_]
 exact ae_ (by omega)
theorem Xl {a:Nat} (ha:a < s.length):lv (gr s) (a:Int)=some ((rR s a,()),()):=by
 have hil:(bP s a).length≤s.length:=zE s (s9 s a)
 rw[FU]
 show(Kw (s.length:Int) 1 false fun y1=>(ix (gL s) (a:Int) ([]:(List Int)) fun y2=>((gp y2).bind fun z1=>(gi (a:Int) 0 s (gF s) (gL s) y1 z1.1.1))))=_
 rw[Hq (by omega),tc (UZ ha),U0 hn (by rw[bp_]; omega),ab_]
 have hc:(bn_ s.length false).count false=s.length:=by simp
 refine xT hn ha (s.length*120+120) (bn_ s.length false) [] (bP s a) (by simp) (fun k hk => ?_) (fun k hk=>by simpa using hk) (fun k hk=>by cases hk) (fun k hk=>by cases hk) (fun k hk j hj => ?_) (by omega) (by rw[hc,bl_]; omega)
 ·have hk:k∈bP s a:=by simpa using hk
  exact⟨mR hk,.one hk⟩
 ·rw[ao_,hb_] at hk
  split at hk <;> cases hk
end
def vX:List Nat→List Nat→List Nat
 | t,[]=>t
 | t,k :: ks=>if k∈t then vX t ks else vX (t++[k]) ks
theorem J0 : ∀(ks t:List Nat),t.Nodup→(∃ ex,vX t ks=t++ex)∧(vX t ks).Nodup ∧ ∀ j,j∈vX t ks↔j∈t∨j∈ks
 | [],t,h=>⟨⟨[],by simp[vX]⟩,h,fun j=>by simp[vX]⟩
 | k :: ks,t,h=>by
  unfold vX
  by_cases hk:k∈t
  ·rw[ae_ hk]
   obtain⟨h1,h2,h3⟩:=J0 ks t h
   refine⟨h1,h2,fun j => ?_⟩
   rw[h3,bi_]
   constructor
   ·rintro(e | e)
    ·exact .inl e
    ·exact .inr (.inr e)
   ·rintro(e | e | e)
    ·exact .inl e
    ·rw[e]
     exact .inl hk
    ·exact .inr e
  ·rw[ac_ hk]
   have hd:(t++[k]).Nodup:=by
    rw[gj_]
    refine⟨h,by simp,fun a ha b hb => ?_⟩
    rw[be_.1 hb]
    exact fun e=>hk (e ▸ ha)
   obtain⟨⟨ex,h1⟩,h2,h3⟩:=J0 ks (t++[k]) hd
   refine⟨⟨k :: ex,by rw[h1]; simp⟩,h2,fun j => ?_⟩
   rw[h3,bo_,be_,bi_,or_assoc]
section
variable {s:List ae} (hs:aO s=true)
include hs
theorem J1 {i:Int} {r:am} {more:List Nat} (hm : ∀ k∈more,k < s.length) (hml:more.length≤120) : ∀(ys pre t:List Nat),more=pre++ys→(∀ k∈t,k < s.length)→t.length+ys.length≤1000000 →
  mD s i (pre.length:Int) r.1 r.2.1 (t.map (aN s)) (more.map (aN s))=mz s (he_ hf_ (i+1)) r.1 r.2.1 ((vX t ys).map (aN s))
 | [],pre,t,h,ht,hb=>by
  have e:=br h
  rw[wQ,aE (by rw[bp_]; exact e)]
  rfl
 | y :: ys,pre,t,h,ht,hb=>by
  rw[aj_] at hb
  have hlen:more.length=pre.length+(ys.length+1):=by rw[h]; simp
  have hlt:(pre.length:Int) < ((more.map (aN s)).length:Int):=by rw[bp_]; exact bF h
  have hg:aw_ (more.map (aN s)) (ap_ (pre.length:Int)) au.dflt=aN s y:=by
   rw[h,ao_]
   simp
  have hy:=hm y (by rw[h]; simp)
  have hw:IntKind.i64.wrap ((pre.length:Int)+1)=((pre++[y]).length:Int):=aM h (by omega)
  rw[wQ,aJ hlt,bO (nn _) hlt,hg,xi _ (by rw[bp_]; omega),ab_,hw]
  have hd:decide (aN s y∈t.map (aN s))=decide (y∈t):=by
   rw[bw_,ai_,ai_]
   exact Xk (bN hs) hy ht
  dsimp only
  rw[hd]
  unfold vX
  by_cases e:y∈t
  ·rw[ae_ e,bb_ e,ac_ (by decide)]
   exact J1 hm hml ys _ t (aC h) ht (by omega)
  ·rw[ac_ e,bf_ e,ae_ (by decide),bO (nn _) hlt,bi (by simp only[bp_,ad_]; omega),show t.map (aN s)++[aN s y]=(t++[y]).map (aN s) by simp]
   refine J1 hm hml ys _ (t++[y]) (aC h) (fun k hk => ?_) (by simp only[af_,ad_]; omega)
   rcases bo_.1 hk with hk | hk
   ·exact ht k hk
   ·rw[be_.1 hk]
    exact hy
theorem PT {a:Nat} (ha:a < s.length) : ∀(m:Nat) (pre ys:List Nat),(pre++ys).Nodup→(∀ k∈pre++ys,k < s.length∧dG (bP s) a k)→(∀ k∈bP s a,k∈pre++ys)→(∀ k∈pre,k≠a)→(∀ k∈pre,∀ j∈bP s k,j∈pre++ys)→s.length≤pre.length+m →
  mz s (pre.length:Int) (aN s a).1 (aN s a).2.1 ((pre++ys).map (aN s))=some ((rR s a,()),())
 | m,pre,[],hd,h1,h2,h3,h5,hm=>by
  have e:rR s a=false:=by
   rw[cf_,ne_eq,gm]
   intro h
   have:=dG.closed (Q:=fun k=>k∈pre) (fun k hk=>by simpa using h2 k hk) (fun j hj k hk=>by simpa using h5 j hj k hk) h
   exact h3 _ this rfl
  rw[wK,aE (by simp),e]
 | 0,pre,y :: ys,hd,h1,h2,h3,h5,hm=>by
  have:=vW s.length _ hd fun k hk=>(h1 k hk).1
  rw[af_,aj_] at this
  omega
 | m+1,pre,y :: ys,hd,h1,h2,h3,h5,hm=>by
  have hn:=bB hs
  have hl:=vW s.length _ hd fun k hk=>(h1 k hk).1
  rw[af_,aj_] at hl
  obtain⟨hy,hr⟩:=h1 y (by simp)
  have hg:aw_ ((pre++y :: ys).map (aN s)) (ap_ (pre.length:Int)) au.dflt=aN s y:=by
   rw[ao_]
   simp
  have hlt:(pre.length:Int) < (((pre++y :: ys).map (aN s)).length:Int):=by
   simp only[bp_,af_,aj_]
   omega
  have hw:IntKind.i64.wrap ((pre.length:Int)+1)=((pre++[y]).length:Int):=by
   rw[fW (by omega) (by omega)]
   simp
  rw[wK,aJ hlt,bO (nn _) hlt,hg]
  show(if bq au (aN s y) (aN s a)=true then _ else _)=_
  by_cases e:y=a
  ·subst e
   rw[ae_ (by rw[lq]),gm.2 hr]
  ·have e' : ¬aN s y=aN s a:=fun k=>e (zF (bN hs) hy ha k)
   have hil:(bP s y).length≤s.length:=zE s (s9 s y)
   rw[ac_ (by rw[lq]; exact e'),bO (nn _) hlt,PQ hs hy,ab_]
   have hin:=J1 hs (i:=(pre.length:Int)) (r:=aN s a) (more:=bP s y) (fun k hk=>mR hk) (by omega) (bP s y) [] (pre++y :: ys) rfl (fun k hk=>(h1 k hk).1) (by simp only[af_,aj_]; omega)
   refine hin.trans ?_
   obtain⟨⟨ex,x1⟩,x2,x3⟩:=J0 (bP s y) (pre++y :: ys) hd
   have x4:vX (pre++y :: ys) (bP s y)=(pre++[y])++(ys++ex):=by rw[x1]; simp
   rw[x4] at x2 x3
   rw[x4,hw]
   refine PT ha m (pre++[y]) (ys++ex) x2 (fun k hk => ?_) (fun k hk=>(x3 k).2 (.inl (h2 k hk))) (fun k hk => ?_) (fun k hk j hj => ?_) (by simp only[af_,ad_]; omega)
   ·rcases(x3 k).1 hk with hk | hk
    ·exact h1 k hk
    ·exact⟨mR hk,.more hr hk⟩
   ·rcases bo_.1 hk with hk | hk
    ·exact h3 k hk
    ·rw[be_.1 hk]
     exact e
   ·rcases bo_.1 hk with hk | hk
    ·exact(x3 j).2 (.inl (h5 k hk j hj))
    ·rw[be_.1 hk] at hj
     exact(x3 j).2 (.inr hj)
theorem Xm (i:Nat):(bP s i).Nodup:=by
 unfold bP qK
 exact List.Pairwise.filter _ List.nodup_range
theorem U1 {a:Nat} (ha:a < s.length):wt s (aN s a)=some ((rR s a,()),()):=by
 rw[Oy,PQ hs ha,ab_]
 refine PT hs ha s.length [] (bP s a) (Xm hs a) (fun k hk => ?_) (fun k hk=>by simpa using hk) (fun k hk=>by cases hk) (fun k hk=>by cases hk) (by omega)
 have hk:k∈bP s a:=by simpa using hk
 exact⟨mR hk,.one hk⟩
end
theorem ik (s:List ae) (F:Nat→ac):(bc s F).length=s.length:=by
 unfold bc
 rw[bp_,fr_]
theorem Bd {s:List ae} {F:Nat→ac} {i:Nat} (h:i < s.length):(bc s F)[i]? = some (aN s i,F i,()):=by
 unfold bc
 rw[List.getElem?_map,List.getElem?_range h]
 rfl
theorem Xn {s:List ae} {F:Nat→ac} {i:Nat} (h:i < s.length) (d:ah):(bc s F).getD i d=(aN s i,F i,()):=by
 rw[ao_,Bd h]
 rfl
theorem DD {s:List ae} {F G:Nat→ac} (h : ∀ k,k < s.length→F k=G k):bc s F=bc s G:=by
 unfold bc
 refine ew_ fun k hk => ?_
 rw[h k (dy_.1 hk)]
def BL (F:Nat→ac) (i:Nat) (v:ac):Nat→ac:=fun k=>if k=i then v else F k
theorem Zk {s:List ae} {F:Nat→ac} {i:Nat} (v:ac) (h:i < s.length):(bc s F).set i (aN s i,v,())=bc s (BL F i v):=by
 apply List.ext_getElem?
 intro k
 rw[List.getElem?_set,ik]
 by_cases e:i=k
 ·subst e
  rw[ae_ rfl,ae_ h,Bd h]
  unfold BL
  rw[ae_ rfl]
 ·rw[ac_ e]
  by_cases hk:k < s.length
  ·rw[Bd hk,Bd hk]
   unfold BL
   rw[ac_ (fun x=>e x.symm)]
  ·rw[cj_ (by rw[ik]; omega),cj_ (by rw[ik]; omega)]
theorem Gl {β:Type} {s:List ae} {F:Nat→ac} {i:Nat} (v:ac) (h:i < s.length) (k:List ah→β):tm aw.dflt (bc s F) (i:Int) (fun e=>(e.1,v,())) k=k (bc s (BL F i v)):=by
 unfold tm
 rw[ca_,Xn h,Zk v h]
theorem Fi (s:List ae) (F:Nat→ac):(bc s F).map (·.1)=s.map (·.1):=by
 have key : ∀ t:List ae,(bs_ s.length).map (fun i=>s.getD i av.dflt)=t→(bc s F).map (·.1)=t.map (·.1):=by
  rintro _ rfl
  unfold bc
  rw[fn_,fn_]
  rfl
 exact key s (DB s _)
theorem lr {s:List ae} {F:Nat→ac} (hs:aO s=true) (hF : ∀ k,k < s.length→az (F k)=true):lj (bc s F)=true:=by
 have h1:=bB hs
 have h2:=bN hs
 have h3:=(lR.1 hs).2.1
 unfold lj
 rw[ag_,ag_,ai_,cl_,ik,Fi]
 refine⟨by omega,fun c hc => ?_,PB ?_ (fun a e=>by cases e)⟩
 ·unfold bc at hc
  obtain⟨k,hk,rfl⟩:=ea_.1 hc
  have hk:=dy_.1 hk
  rw[ag_]
  exact⟨(h3 _ (km hk)).1,hF k hk⟩
 ·exact List.Pairwise.map _ (fun a b h=>h) h2
theorem Xo (w:aj):az (bo w).1=true:=by
 cases h:(bo w).2 with
 | true=>exact(pd h).1
 | false =>
  rw[Pa h]
  exact OV
theorem DE {f:List ab} {l:List ah} (h1:ef f=true) (h2:lj l=true):az (eZ f l)=true:=by
 have hs:=s8 h1
 have hll:l.length≤120:=by
  unfold lj at h2
  simp only[ag_,ai_] at h2
  omega
 have hv:=mL h2
 have hl:=hs.1
 obtain⟨_,e3⟩:=Sf (f:=f) (l:=l) (by omega) (fun c hc=>bq_ (dV (hv c hc)) (by decide)) (by omega) hs.2.1 hs.2.2 h1 h2
 unfold eZ
 dsimp only
 split
 ·decide
 ·exact e3
theorem IJ {α β:Type} {xs:List α} {i:Int} {k:Option β} (h : ¬(0≤i∧i < (xs.length:Int))):inb xs i k=none:=by
 unfold inb
 by_cases h0:0≤i
 ·rw[ae_ h0,ac_ fun h1=>h ⟨h0,h1⟩]
 ·rw[ac_ h0]
theorem Xp (g:List ae×(List (List ab)×(List (List Int)×Unit))) : ∀(n:Nat) (i:Int) (done:List Bool) (out:List ah),done.count false≤n→cS i g.1 g.2.1 g.2.2.1 done out=bR i g done out:=by
 intro n
 induction n with
 | zero =>
  intro i done out hc
  rw[gX,cA]
  by_cases hin:0≤i∧i < (done.length:Int)
  ·simp only[bO hin.1 hin.2]
   by_cases hd:aw_ done i.toNat false=true
   ·rw[ae_ hd,ae_ hd]
   ·have:=uz done i.toNat (by omega) (by simpa using hd)
    omega
  ·rw[IJ hin,IJ hin]
 | succ n ih =>
  intro i done out hc
  rw[gX,cA]
  by_cases hin:0≤i∧i < (done.length:Int)
  ·simp only[bO hin.1 hin.2]
   by_cases hd:aw_ done i.toNat false=true
   ·rw[ae_ hd,ae_ hd]
   ·have hcs:=uz done i.toNat (by omega) (by simpa using hd)
    have key : ∀ y5:List Int,ez i y5 (y5.length:Int) 0 g.1 g.2.1 g.2.2.1 (done.set i.toNat true) out=cy i y5 (y5.length:Int) 0 g (done.set i.toNat true) out:=by
     intro y5
     rw[lX,fV]
     have k2 : ∀ y,cS y g.1 g.2.1 g.2.2.1 (done.set i.toNat true) out=bR y g (done.set i.toNat true) out:=fun y=>ih y _ out (by omega)
     simp only[k2]
    simp only[key]
  ·rw[IJ hin,IJ hin]
theorem aaV {x0:Int} {x1:List Int} {x2 x3:Int} {g:List ae×(List (List ab)×(List (List Int)×Unit))} {done:List Bool} {out:List ah}:cy x0 x1 x2 x3 g done out=cc x0 x1 x2 x3 g done out:=by
 rw[fV,dJ]
section
variable {s:List ae} (hs:aO s=true) {told:Nat→Bool} {given:Nat→ac}
include hs
theorem dS (i:Nat):(de s i).size≤9223372036854775807:=by
 by_cases h:i < s.length
 ·exact bq_ (qJ hs _ (km h)) (by decide)
 ·unfold de
  rw[ao_,cj_ (by omega)]
  decide
structure Gm (s:List ae) (told:Nat→Bool) (given:Nat→ac) (P:Nat→Prop) (done:List Bool) (F:Nat→ac):Prop where
 len:done.length=s.length
 val : ∀ k,k < s.length→done.getD k false=true→P k∨F k=dy s told given k
 ok : ∀ k,k < s.length→az (F k)=true
 told : ∀ k,k < s.length→told k=true→done.getD k false=true
structure Be (s:List ae) (done done':List Bool):Prop where
 cnt:done'.count false≤done.count false
 mono : ∀ k,done.getD k false=true→done'.getD k false=true
omit hs in
theorem Be.trans {s:List ae} {a b c:List Bool} (h:Be s a b) (k:Be s b c):Be s a c:=⟨bq_ k.cnt h.cnt,fun j hj=>k.mono j (h.mono j hj)⟩
def ab9 (s:List ae) (told:Nat→Bool) (given:Nat→ac) (n:Nat):Prop := ∀(i:Nat) (P:Nat→Prop) (done:List Bool) (F:Nat→ac),i < s.length→Gm s told given P done F→(∀ p,P p → ¬dG (bP s) p p∧dG (bP s) p i)→done.count false≤n →
 ∃ done' F',bR (i:Int) (gr s) done (bc s F)=some ((()),(done',gr s,bc s F',()))∧Gm s told given P done' F'∧Be s done done'∧done'.getD i false=true
theorem Zl {f:List ab} {F:Nat→ac} {i:Nat} (hf:ck (de s i)=some f) (ho : ∀ k,k < s.length→az (F k)=true) (h : ∀ k∈bP s i,F k=dy s told given k) (ht:told i=false) (hr : ¬dG (bP s) i i):tS f (bc s F)=some ((dy s told given i,()),()):=by
 have hok:=kk hf (dS hs i)
 have hsm:=s8 hok
 have hl:=hsm.1
 have hn:=bB hs
 have hv:=lr hs ho
 have e:eZ f (bc s F)=dy s told given i:=by
  rw[Ba (dS hs i) hf h,pK (dS hs) i,ac_ (by simp[ht]),hf]
  simp only[ac_ hr]
 rw[O5 (by rw[ik]; omega) (fun c hc=>bq_ (dV (mL hv c hc)) (by decide)) (by omega) hsm.2.1 hsm.2.2 hok hv,e]
theorem LL {n:Nat} (R:ab9 s told given n) {i:Nat} (hi:i < s.length) {f:List ab} (hf:ck (de s i)=some f) (hr : ¬dG (bP s) i i) (ht:told i=false) {P:Nat→Prop} (hP : ∀ p,P p → ¬dG (bP s) p p∧dG (bP s) p i) :
  ∀(ys pre:List Nat) (done:List Bool) (F:Nat→ac),bP s i=pre++ys→Gm s told given (fun k=>P k∨k=i) done F→done.count false≤n→(∀ k∈pre,done.getD k false=true)→done.getD i false=true →
  ∃ done' F',cc (i:Int) ((bP s i).map fun k:Nat=>(k:Int)) ((bP s i).length:Int) (pre.length:Int) (gr s) done (bc s F)=some ((()),(done',gr s,bc s F',()))∧Gm s told given P done' F'∧Be s done done'∧done'.getD i false=true
 | [],pre,done,F,h,hI,hc,hp,hdi=>by
  have hpre:bP s i=pre:=by rw[h]; simp
  have hval : ∀ k∈bP s i,F k=dy s told given k:=by
   intro k hk
   have hk':k∈pre:=hpre ▸ hk
   rcases hI.val k (mR hk) (hp k hk') with(e | e) | e
   ·exact bh_ (dG.more (hP k e).2 hk) (hP k e).1
   ·rw[e] at hk
    exact bh_ (dG.one hk) hr
   ·exact e
  have hev:=Zl hs hf hI.ok hval ht hr
  have hv:az (dy s told given i)=true:=by
   have:=DE (kk hf (dS hs i)) (lr hs hI.ok)
   rw[Ba (dS hs i) hf hval] at this
   rw[pK (dS hs) i,ac_ (by simp[ht]),hf]
   simp only[ac_ hr]
   exact this
  refine⟨done,BL F i (dy s told given i),?_,⟨hI.len,fun k hk hd => ?_,fun k hk => ?_,hI.told⟩,⟨aq_ _,fun _ h=>h⟩,hdi⟩
  ·rw[dJ,aE (by rw[hpre]; omega)]
   show(ix (gF s) (i:Int) ([]:(List ab)) fun y2=>((tS y2 (bc s F)).bind fun z2=>(inb (bc s F) (i:Int) (tm (aw.dflt) (bc s F) (i:Int) (fun e=>(e.1,z2.1.1,())) fun w3=>(some ((()),(done,gr s,w3,())))))))=_
   rw[tc (ZX hi),hf]
   show((tS f (bc s F)).bind fun z2=>_)=_
   rw[hev,ab_,bO (nn _) (by rw[ik]; omega),Gl _ hi]
  ·unfold BL
   by_cases e:k=i
   ·rw[ae_ e,e]
    exact .inr rfl
   ·rw[ac_ e]
    rcases hI.val k hk hd with(h1 | h1) | h1
    ·exact .inl h1
    ·exact bh_ h1 e
    ·exact .inr h1
  ·unfold BL
   by_cases e:k=i
   ·rw[ae_ e]
    exact hv
   ·rw[ac_ e]
    exact hI.ok k hk
 | y :: ys,pre,done,F,h,hI,hc,hp,hdi=>by
  have hy:y∈bP s i:=by rw[h]; simp
  have hyl:=mR hy
  have hil:(bP s i).length≤s.length:=zE s (s9 s i)
  have hn:=bB hs
  have hlt:((pre.length:Nat):Int) < ((bP s i).length:Int):=bF h
  have hw:IntKind.i64.wrap ((pre.length:Int)+1)=((pre++[y]).length:Int):=aM h (by omega)
  have hg:((bP s i).map fun k:Nat=>(k:Int))[pre.length]? = some (y:Int):=by
   rw[h]
   simp
  obtain⟨done1,F1,e1,I1,N1,d1⟩:=R y (fun k=>P k∨k=i) done F hyl hI (fun p hp'=>by
   rcases hp' with hp' | hp'
   ·exact⟨(hP p hp').1,.more (hP p hp').2 hy⟩
   ·rw[hp']
    exact⟨hr,.one hy⟩) hc
  obtain⟨done2,F2,e2,I2,N2,d2⟩:=LL R hi hf hr ht hP ys (pre++[y]) done1 F1 (aC h) I1 (bq_ N1.cnt hc) (fun k hk=>by
   rcases bo_.1 hk with hk | hk
   ·exact N1.mono k (hp k hk)
   ·rw[be_.1 hk]
    exact d1) (N1.mono i hdi)
  refine⟨done2,F2,?_,I2,N1.trans N2,d2⟩
  rw[dJ,aJ hlt,tc hg,e1,ab_,hw]
  exact e2
theorem Zm : ∀ n:Nat,ab9 s told given n:=by
 intro n
 induction n with
 | zero =>
  intro i P done F hi hI hP hc
  by_cases hd:done.getD i false=true
  ·refine⟨done,F,?_,hI,⟨aq_ _,fun _ h=>h⟩,hd⟩
   rw[cA,bO (nn _) (by rw[hI.len]; omega),ca_,ae_ hd]
  ·have:=uz done i (by rw[hI.len]; exact hi) (by simpa using hd)
   omega
 | succ n R =>
  intro i P done F hi hI hP hc
  by_cases hd:done.getD i false=true
  ·refine⟨done,F,?_,hI,⟨aq_ _,fun _ h=>h⟩,hd⟩
   rw[cA,bO (nn _) (by rw[hI.len]; omega),ca_,ae_ hd]
  ·have hil:i < done.length:=by rw[hI.len]; exact hi
   have hd':done.getD i false=false:=by simpa using hd
   have hcs:=uz done i hil hd'
   have ht:told i=false:=by
    rw[cf_]
    intro h
    exact hd (hI.told i hi h)
   have hset:(done.set i true).getD i false=true:=by rw[rS _ _ _ hil,ae_ rfl]
   have hnext:Be s done (done.set i true):=⟨by omega,fun k hk=>by
    rw[rS _ _ _ hil]
    split
    ·rfl
    ·exact hk⟩
   have hstep : ∀ v,az v=true→v=dy s told given i→Gm s told given P (done.set i true) (BL F i v):=by
    intro v hv ev
    refine⟨by rw[eu_]; exact hI.len,fun k hk hdk => ?_,fun k hk => ?_,fun k hk htk=>hnext.mono k (hI.told k hk htk)⟩
    ·unfold BL
     rw[rS _ _ _ hil] at hdk
     by_cases e:k=i
     ·rw[ae_ e,e]
      exact .inr ev
     ·rw[ac_ e] at hdk ⊢
      exact hI.val k hk hdk
    ·unfold BL
     by_cases e:k=i
     ·rw[ae_ e]
      exact hv
     ·rw[ac_ e]
      exact hI.ok k hk
   have hve:=pK (told:=told) (given:=given) (dS hs) i
   rw[ac_ (by simp[ht])] at hve
   have heq:bR (i:Int) (gr s) done (bc s F)=ix (gF s) (i:Int) ([]:(List ab)) fun y1=>(if((am_ y1:Int) == 0)=true then(ix s (i:Int) (av.dflt) fun y2=>((eW y2.2.1).bind fun z1=>(inb (bc s F) (i:Int) (tm (aw.dflt) (bc s F) (i:Int) (fun e=>(e.1,z1.1.1,())) fun w3=>(some ((()),((fa_ done i true),gr s,w3,()))))))) else((lv (gr s) (i:Int)).bind fun z2=>(if z2.1.1=true then((gA 5).bind fun z3=>(inb (bc s F) (i:Int) (tm (aw.dflt) (bc s F) (i:Int) (fun e=>(e.1,z3.1.1,())) fun w4=>(some ((()),((fa_ done i true),gr s,w4,())))))) else(ix (gL s) (i:Int) ([]:(List Int)) fun y5=>(cy (i:Int) y5 (am_ y5:Int) 0 (gr s) (fa_ done i true) (bc s F)))))):=by
    rw[cA,bO (nn _) (by omega),ca_,hd',ac_ (by decide),bO (nn _) (by omega)]
    rfl
   rw[heq,tc (ZX hi)]
   cases hf:ck (de s i) with
   | none =>
    rw[hf] at hve
    have hsz:=dS hs i
    have hsz2:(de s i).size≤200:=qJ hs _ (km hi)
    have hrv:eW (de s i)=some (((bo (lb (de s i))).1,(bo (lb (de s i))).2,()),()):=by
     have:=oK (w:=lb (de s i)) (by rw[iR]; omega)
     rw[dM] at this
     exact this
    refine⟨done.set i true,BL F i (bo (lb (de s i))).1,?_,hstep _ (Xo _) hve.symm,hnext,hset⟩
    dsimp only[Option.getD_none]
    rw[ae_ (by rfl),tc (pL (d:=av.dflt) hi)]
    show((eW (de s i)).bind fun z1=>_)=_
    rw[hrv,ab_,bO (nn _) (by rw[ik]; omega),Gl _ hi]
   | some f =>
    rw[hf] at hve
    have hok:=kk hf (dS hs i)
    have hfl:1≤f.length:=by
     have hb:cu (f.length:Int) 1 60=true:=by
      unfold ef at hok
      simp only[ag_] at hok
      exact hok.1
     have:=bm.1 hb
     omega
    dsimp only[de_]
    rw[ac_ (by rw[beq_iff_eq]; omega),Xl (bB hs) hi,ab_]
    dsimp only
    by_cases hr:dG (bP s) i i
    ·simp only[ae_ hr] at hve
     refine⟨done.set i true,BL F i (vE 5),?_,hstep _ (nu (by decide) (by decide)) hve.symm,hnext,hset⟩
     rw[gm.2 hr,ae_ rfl,gJ,ab_,bO (nn _) (by rw[ik]; omega),Gl _ hi]
    ·have hrb:rR s i=false:=by
      rw[cf_,ne_eq,gm]
      exact hr
     have hI':Gm s told given (fun k=>P k∨k=i) (done.set i true) F:=by
      refine⟨by rw[eu_]; exact hI.len,fun k hk hdk => ?_,hI.ok,fun k hk htk=>hnext.mono k (hI.told k hk htk)⟩
      rw[rS _ _ _ hil] at hdk
      by_cases e:k=i
      ·exact .inl (.inr e)
      ·rw[ac_ e] at hdk
       rcases hI.val k hk hdk with h1 | h1
       ·exact .inl (.inl h1)
       ·exact .inr h1
     obtain⟨done',F',e1,I1,N1,d1⟩:=LL hs R hi hf hr ht hP (bP s i) [] (done.set i true) F rfl hI' (by omega) (fun k hk=>by cases hk) hset
     refine⟨done',F',?_,I1,hnext.trans N1,d1⟩
     rw[hrb,ac_ (by decide),tc (UZ hi),aaV,bp_]
     exact e1
theorem PU : ∀(m i:Nat) (done:List Bool) (F:Nat→ac),i+m=s.length→Gm s told given (fun _=>False) done F→(∀ k,k < i→done.getD k false=true) →
  gG (s.length:Int) (i:Int) (bc s F) (gr s) done=some ((bc s (dy s told given),()),())
 | 0,i,done,F,h,hI,hd=>by
  rw[kL,aE (by omega)]
  rw[DD fun k hk=>(hI.val k hk (hd k (by omega))).resolve_left id]
 | m+1,i,done,F,h,hI,hd=>by
  have hn:=bB hs
  obtain⟨done',F',e1,I1,N1,d1⟩:=Zm hs (told:=told) (given:=given) (done.count false) i (fun _=>False) done F (by omega) hI (fun p hp=>hp.elim) (aq_ _)
  rw[kL,aJ (by omega),e1,ab_,fW (by omega) (by omega)]
  have:=PU m (i+1) done' F' (by omega) I1 (fun k hk=>by
   by_cases e:k=i
   ·rw[e]
    exact d1
   ·exact N1.mono k (hd k (by omega)))
  exact this
theorem U2 {done:List Bool} {F:Nat→ac}:kz (s.length:Int) 0 (bc s F) s (gF s) (gL s) done=gG (s.length:Int) 0 (bc s F) (gr s) done:=by
 rw[AH,kL]
 have:=Xp (gr s) (done.count false) 0 done (bc s F) (aq_ _)
 rw[←this]
 rfl
theorem Q9 {l:List Bool} (h:l.length≤1000000):jb l=some ((l,()),()):=by
 rw[sP]
 unfold dc
 simp only[jx?,dite_true,ab_]
 exact ae_ (by omega)
theorem PV {gv:List ac} (hg:gv.length=s.length) {td:List Bool} : ∀(ys pre:List ae) (o:List ah),s=pre++ys→o.length=ys.length →
  jf gv s (s.length:Int) (pre.length:Int) s (gF s) (gL s) td (((bs_ pre.length).map fun k=>(aN s k,gv.getD k v0,()))++o)=kz (s.length:Int) 0 (bc s fun k=>gv.getD k v0) s (gF s) (gL s) td
 | [],pre,o,h,ho=>by
  have e:pre=s:=by rw[h]; simp
  rw[qW,aE (br h),List.eq_nil_of_length_eq_zero ho,bv_,bp_,fr_,e]
  rfl
 | y :: ys,pre,o,h,ho=>by
  have hn:=bB hs
  have hlen:s.length=pre.length+(ys.length+1):=by rw[h]; simp
  cases o with
  | nil=>cases ho
  | cons z o =>
   have e0:((bs_ pre.length).map fun k=>(aN s k,gv.getD k v0,())).length=pre.length:=by rw[bp_,fr_]
   have hi:pre.length < gv.length:=by omega
   rw[qW,aJ (bF h),bK h,tc (pL (d:=v0) hi),bO (nn _) (by simp only[af_,aj_,bp_,fr_]; omega),aM h (by omega)]
   have ih:=PV hg (td:=td) ys (pre++[y]) o (aC h) (by simpa using ho)
   have e1:fa_ (((bs_ pre.length).map fun k=>(aN s k,gv.getD k v0,()))++z :: o) (ap_ (pre.length:Int)) (y.1,gv.getD (ap_ (pre.length:Int)) v0,())=((bs_ (pre++[y]).length).map fun k=>(aN s k,gv.getD k v0,()))++o:=by
    have:=abo (l:=(bs_ pre.length).map fun k=>((aN s k,gv.getD k v0,()):ah)) (r:=o) (y:=z) (z:=(y.1,gv.getD (ap_ (pre.length:Int)) v0,()))
    rw[e0] at this
    rw[this,af_,ad_,List.range_succ,List.map_append,List.append_assoc,List.map_singleton,Xi h]
    rfl
   refine Eq.trans ?_ ih
   exact congrArg _ e1
theorem Ra {td:List Bool} {gv:List ac} (h1:td.length=s.length) (h2:gv.length=s.length) (h3 : ∀ v∈gv,az v=true) (ht : ∀ k,k < s.length→told k=td.getD k false) (hg : ∀ k,k < s.length→given k=gv.getD k v0):tt (gr s) td gv=some ((bc s (dy s told given),()),()):=by
 have hn:=bB hs
 rw[FV,Q9 hs (by omega),ab_]
 show(Kw (s.length:Int) 48 (aw.dflt) fun y1=>(jf gv s (s.length:Int) 0 s (gF s) (gL s) td y1))=_
 rw[Hq (by omega)]
 have:=PV hs h2 (td:=td) s [] (bn_ s.length aw.dflt) rfl (by simp)
 refine Eq.trans this ?_
 rw[U2 hs]
 refine PU hs s.length 0 td _ (by omega) ⟨h1,fun k hk hd => .inr ?_,fun k hk => ?_,fun k hk h=>by rw[←ht k hk]; exact h⟩ (fun k hk=>by omega)
 ·rw[pK (dS hs) k,ae_ (by rw[ht k hk]; exact hd),hg k hk]
 ·exact h3 _ (km (by omega))
end
def dW (s:List ae) (V:Nat→ac) (pend:List Nat):List ah:=((bs_ s.length).filter fun k => !decide (k∈pend)).map fun k=>(aN s k,V k,())
theorem Bf (s:List ae) (V:Nat→ac) (pend:List Nat):(dW s V pend).Sublist (bc s V):=List.Sublist.map _ List.filter_sublist
theorem Zn (s:List ae) (V:Nat→ac):dW s V []=bc s V:=by
 unfold dW bc
 rw[List.filter_eq_self.2 fun k hk=>by simp]
theorem Gn {s:List ae} {V:Nat→ac} {pend:List Nat} {c:ah}:c∈dW s V pend ↔ ∃ k,k < s.length∧k ∉ pend∧(aN s k,V k,())=c:=by
 unfold dW
 rw[ea_]
 constructor
 ·rintro⟨k,hk,e⟩
  rw[dm_,dy_] at hk
  exact⟨k,hk.1,by simpa using hk.2,e⟩
 ·rintro⟨k,h1,h2,e⟩
  exact⟨k,dm_.2 ⟨dy_.2 h1,by simpa using h2⟩,e⟩
theorem Zo {l m:List ah} (hs:l.Sublist m) (h:lj m=true):lj l=true:=by
 unfold lj at h ⊢
 simp only[ag_,ai_,cl_] at h ⊢
 obtain⟨h1,h2,h3⟩:=h
 have hl:=hs.length_le
 refine⟨by omega,fun c hc=>h2 c (hs.subset hc),?_⟩
 exact PB (gp_ (List.Sublist.map _ hs) (Wu h3)) (fun a e=>by cases e)
theorem SH {s:List ae} {V:Nat→ac} (h:iw s):(bc s V).Pairwise fun a b=>cl a.1 b.1=true:=by
 have h1:((bc s V).map (·.1)).Pairwise fun a b=>cl a b=true:=by
  rw[Fi]
  exact List.Pairwise.map _ (fun a b h=>h) h
 exact List.pairwise_map.1 h1
theorem Zp {s:List ae} {V:Nat→ac} {pend:List Nat} {ar:List ak} (h : ∀ k∈qK s ar,k ∉ pend):jy ar (dW s V pend)=jy ar (bc s V):=by
 unfold jy dW bc
 rw[gd_,gd_,List.filter_filter]
 congr 1
 refine List.filter_congr fun k hk => ?_
 show((ar.any fun a=>cB a (aN s k)) && !decide (k∈pend))=ar.any fun a=>cB a (aN s k)
 cases hc:(ar.any fun a=>cB a (aN s k)) with
 | false=>rfl
 | true =>
  have:=h k (jI.2 ⟨dy_.1 hk,hc⟩)
  simp[this]
def vY (c:ah):List ah→List ah
 | []=>[c]
 | y :: ys=>if jU y.1 c.1=true then y :: vY c ys else c :: y :: ys
theorem DF (c:ah) : ∀ l:List ah,(vY c l).Perm (c :: l)
 | [] => .refl _
 | y :: ys=>by
  unfold vY
  split
  ·exact((DF c ys).cons y).trans (.swap c y ys)
  ·exact .refl _
theorem SI {c:ah} : ∀ {l:List ah},(l.Pairwise fun a b=>cl a.1 b.1=true)→(∀ y∈l,y.1≠c.1)→(vY c l).Pairwise fun a b=>cl a.1 b.1=true
 | [],_,_=>by simp[vY]
 | y :: ys,h,hn=>by
  have h':=ce_.1 h
  unfold vY
  by_cases k:jU y.1 c.1=true
  ·rw[ae_ k]
   refine ce_.2 ⟨fun z hz => ?_,SI h'.2 fun z hz=>hn z (ar_ _ hz)⟩
   rcases bi_.1 ((DF c ys).mem_iff.1 hz) with rfl | hz
   ·exact k
   ·exact h'.1 z hz
  ·rw[ac_ k]
   have hc:cl c.1 y.1=true:=by
    rcases xP y.1 c.1 with e | e | e
    ·exact bh_ e k
    ·exact bh_ e (hn y (by simp))
    ·exact e
   refine ce_.2 ⟨fun z hz => ?_,h⟩
   rcases bi_.1 hz with rfl | hz
   ·exact hc
   ·exact iI hc (h'.1 z hz)
theorem PW {l:List ah} {c:ah} (hl:l.length≤2000000) : ∀(ys pre:List ah),l=pre++ys→wA l (pre.length:Int) c.1 c.2.1=some ((pre++vY c ys,()),())
 | [],pre,h=>by
  have hlen:l.length=pre.length:=by rw[h]; simp
  rw[C1,aE (br h),Oa (nn _) (by omega),bi (by simp only[bl_,ci_]; omega),bi (by simp only[af_,bl_,ci_,ad_]; omega),Hr (nn _) (by omega),bi (by simp only[af_,bl_,ci_,ad_,dp_]; omega)]
  rw[h]
  simp[vY]
 | y :: ys,pre,h=>by
  have hlen:l.length=pre.length+(ys.length+1):=by rw[h]; simp
  rw[C1,aJ (bF h),bK h,De,ab_]
  dsimp only
  unfold vY
  by_cases k:jU y.1 c.1=true
  ·rw[ae_ k,ae_ k,aM h (by omega),PW hl ys _ (aC h)]
   simp
  ·rw[ac_ k,ac_ k,Oa (nn _) (by omega),bi (by simp only[bl_,ci_]; omega),bi (by simp only[af_,bl_,ci_,ad_]; omega),Hr (nn _) (by omega),bi (by simp only[af_,bl_,ci_,ad_,dp_]; omega)]
   rw[h]
   simp
theorem Xq {l:List ah} (c:ah) (hl:l.length≤2000000):lw l c=some ((vY c l,()),()):=by
 rw[We]
 exact PW hl l [] rfl
theorem Zq {s:List ae} {V:Nat→ac} (hs:iw s) {p q:List Nat} {j:Nat} (hj:j < s.length) (hp:j∈p) (hq : ∀ k,k∈q↔k∈p∧k≠j):vY (aN s j,V j,()) (dW s V p)=dW s V q:=by
 have pw:=fun r=>gp_ (Bf s V r) (SH (V:=V) hs)
 refine IA (lt:=fun a b:ah=>cl a.1 b.1) (fun x=>mP _) (fun x y z h k=>iI h k) (SI (pw p) fun y hy => ?_) (pw q) fun y => ?_
 ·obtain⟨k,h1,h2,rfl⟩:=Gn.1 hy
  intro e
  have:=zF hs h1 hj e
  exact h2 (this ▸ hp)
 ·rw[(DF _ _).mem_iff,bi_,Gn,Gn]
  constructor
  ·rintro(rfl | ⟨k,h1,h2,rfl⟩)
   ·exact⟨j,hj,fun h=>((hq j).1 h).2 rfl,rfl⟩
   ·exact⟨k,h1,fun h=>h2 ((hq k).1 h).1,rfl⟩
  ·rintro⟨k,h1,h2,rfl⟩
   by_cases e:k=j
   ·subst e
    exact .inl rfl
   ·exact .inr ⟨k,h1,fun h=>h2 ((hq k).2 ⟨h,e⟩),rfl⟩
section
variable {s:List ae} (hs:aO s=true) {told:Nat→Bool} {given:Nat→ac} (hg : ∀ k,k < s.length→az (given k)=true)
include hs hg
theorem SJ : ∀(n k:Nat),k < s.length→az (lZ s told given n k)=true
 | 0,k,hk=>OV
 | n+1,k,hk=>by
  unfold lZ
  split
  ·exact hg k hk
  ·cases hf:ck (de s k) with
   | none=>exact Xo _
   | some f =>
    dsimp only
    split
    ·exact nu (by decide) (by decide)
    ·exact DE (kk hf (dS hs k)) (lr hs fun j hj=>SJ n j hj)
theorem SK {k:Nat} (hk:k < s.length):az (dy s told given k)=true:=SJ hs hg _ k hk
theorem aaW (p:List Nat):lj (dW s (dy s told given) p)=true:=Zo (Bf _ _ _) (lr hs fun k hk=>SK hs hg hk)
theorem Xr {f:List ab} {i:Nat} {p:List Nat} (hf:ck (de s i)=some f) (h : ∀ k∈bP s i,k ∉ p) (ht:told i=false) (hr : ¬dG (bP s) i i):tT f (dW s (dy s told given) p)=some ((dy s told given i,()),()):=by
 have hok:=kk hf (dS hs i)
 have hsm:=s8 hok
 have hl:=hsm.1
 have hn:=bB hs
 have hv:=aaW (told:=told) hs hg p
 have hdl:=(Bf s (dy s told given) p).length_le
 rw[ik] at hdl
 have e:eZ f (dW s (dy s told given) p)=dy s told given i:=by
  rw[pK (dS hs) i,ac_ (by simp[ht]),hf]
  simp only[ac_ hr]
  refine xh hok (Zp fun k hk=>h k ?_)
  unfold bP s9
  rw[hf]
  exact hk
 rw[O4 (by omega) (fun c hc=>bq_ (dV (mL hv c hc)) (by decide)) (by omega) hsm.2.1 hsm.2.2]
 unfold MK
 rw[ae_ hok,ae_ hv,e]
theorem aaX {p q:List Nat} {j:Nat} (hj:j < s.length) (hp:j∈p) (hq : ∀ k,k∈q↔k∈p∧k≠j):lw (dW s (dy s told given) p) (aN s j,dy s told given j,())=some ((dW s (dy s told given) q,()),()):=by
 have hn:=bB hs
 have hdl:=(Bf s (dy s told given) p).length_le
 rw[ik] at hdl
 rw[Xq _ (by omega),Zq (bN hs) hj hp hq]
omit hg in
theorem IK {t:List Nat} {k:Nat} (hk:k < s.length) (ht : ∀ j∈t,j < s.length) (hl:t.length≤1000000):oc (t.map (aN s)) (aN s k)=some ((decide (k∈t),()),()):=by
 rw[xi _ (by rw[bp_]; omega)]
 have:decide (aN s k∈t.map (aN s))=decide (k∈t):=by
  rw[bw_,ai_,ai_]
  exact Xk (bN hs) hk ht
 rw[this]
def iy (lft rest:List Nat) (i:Nat) (k:Nat):Bool:=decide (k∈lft.drop i) || decide (k∈rest)
section
variable {lft rest:List Nat} (hlf : ∀ k∈lft,k < s.length) (hre : ∀ k∈rest,k < s.length) (hll:lft.length≤120) (hrl:rest.length≤120)
include hlf hre hll hrl
omit hg in
theorem rT {i:Nat} (hi:i < lft.length) {f:List ab} {a b:Int} {c:ByteArray} {done:List ah} {ln:List Nat} (hln : ∀ k∈ln,k < s.length) (hlnl:ln.length≤120) : ∀(ys pre:List Nat) (w:Bool),ln=pre++ys →
  fI s (i:Int) w (pre.length:Int) done (lft.map (aN s)) (rest.map (aN s)) f a b c (ln.map (aN s)) =
  if(w || ys.any (iy lft rest i))=true then(ix (lft.map (aN s)) (i:Int) (au.dflt) fun y2=>(app (rest.map (aN s)) ([y2]:(List am)) 16 fun y3=>(eO s (he_ hf_ ((i:Int)+1)) done (lft.map (aN s)) y3)))
  else((tT f done).bind fun z3=>(ix (lft.map (aN s)) (i:Int) (au.dflt) fun y4=>((lw done (y4,z3.1.1,())).bind fun z4=>(eO s (he_ hf_ ((i:Int)+1)) z4.1.1 (lft.map (aN s)) (rest.map (aN s))))))
 | [],pre,w,h=>by
  have e:=br h
  rw[wW,aE (by rw[bp_]; exact e),List.any_nil,Bool.or_false]
 | y :: ys,pre,w,h=>by
  have hlen:ln.length=pre.length+(ys.length+1):=by rw[h]; simp
  have hlt:(pre.length:Int) < ((ln.map (aN s)).length:Int):=by rw[bp_]; exact bF h
  have hgt:aw_ (ln.map (aN s)) (ap_ (pre.length:Int)) au.dflt=aN s y:=by
   rw[h,ao_]
   simp
  have hy:=hln y (by rw[h]; simp)
  have hw:IntKind.i64.wrap ((pre.length:Int)+1)=((pre++[y]).length:Int):=aM h (by omega)
  rw[wW,aJ hlt,hw]
  cases w with
  | true =>
   rw[ae_ rfl,rT hi hln hlnl ys _ true (aC h)]
   simp only[Bool.true_or]
  | false =>
   have hdr:List.drop ((i:Int).toNat) (lft.map (aN s))=(lft.drop i).map (aN s):=by rw[ca_,List.map_drop]
   rw[ac_ (by decide),Hr (nn _) (by rw[bp_]; omega),hdr,bO (nn _) hlt,hgt,IK hs hy (fun j hj=>hlf j (List.mem_of_mem_drop hj)) (by rw[dp_]; omega),ab_]
   dsimp only
   have hany:(y :: ys).any (iy lft rest i)=(iy lft rest i y || ys.any (iy lft rest i)):=List.any_cons
   by_cases h1:y∈lft.drop i
   ·have hwt:iy lft rest i y=true:=by
     unfold iy
     simp[h1]
    rw[bb_ h1,ae_ rfl,rT hi hln hlnl ys _ true (aC h),hany,hwt]
    simp only[Bool.true_or,cz_]
   ·have hwt:iy lft rest i y=decide (y∈rest):=by
     unfold iy
     simp[h1]
    rw[bf_ h1,ac_ (by decide),bO (nn _) hlt,IK hs hy hre (by omega),ab_]
    dsimp only
    rw[rT hi hln hlnl ys _ _ (aC h),hany,hwt]
    simp only[cz_]
omit hg in
theorem aaY {i:Nat} (hi:i < lft.length) {f:List ab} {a b:Int} {c:ByteArray} {done:List ah} {ln:List Nat} (hln : ∀ k∈ln,k < s.length) (hlnl:ln.length≤120) :
  ss s (i:Int) false 0 done (lft.map (aN s)) (rest.map (aN s)) f a b c (ln.map (aN s)) =
  if(ln.any (iy lft rest i))=true then(ix (lft.map (aN s)) (i:Int) (au.dflt) fun y2=>(app (rest.map (aN s)) ([y2]:(List am)) 16 fun y3=>(eO s (he_ hf_ ((i:Int)+1)) done (lft.map (aN s)) y3)))
  else if ln=[] then((tT f done).bind fun z3=>(ix (lft.map (aN s)) (i:Int) (au.dflt) fun y4=>((lw done (y4,z3.1.1,())).bind fun z4=>(iC s (he_ hf_ ((i:Int)+1)) z4.1.1 (lft.map (aN s)) (rest.map (aN s))))))
  else((tT f done).bind fun z3=>(ix (lft.map (aN s)) (i:Int) (au.dflt) fun y4=>((lw done (y4,z3.1.1,())).bind fun z4=>(eO s (he_ hf_ ((i:Int)+1)) z4.1.1 (lft.map (aN s)) (rest.map (aN s)))))):=by
 have hlt':(i:Int) < ((lft.map (aN s)).length:Int):=by rw[bp_]; omega
 cases ln with
 | nil =>
  rw[zl,aE (by simp),ac_ (by decide),ac_ (by simp),ae_ rfl]
  congr 1
 | cons y ys =>
  have hlt:(0:Int) < (((y :: ys).map (aN s)).length:Int):=by simp only[dc_,aj_]; omega
  have hgt:aw_ ((y :: ys).map (aN s)) (ap_ (0:Int)) au.dflt=aN s y:=rfl
  have hy:=hln y (by simp)
  have hw:IntKind.i64.wrap ((0:Int)+1)=(([y]:List Nat).length:Int):=by
   show IntKind.i64.wrap ((0:Int)+1)=(1:Int)
   decide
  have hdr:List.drop ((i:Int).toNat) (lft.map (aN s))=(lft.drop i).map (aN s):=by rw[ca_,List.map_drop]
  rw[zl,aJ hlt,hw,ac_ (by decide),Hr (nn _) (by rw[bp_]; omega),hdr,bO (co_ 0) hlt,hgt,IK hs hy (fun j hj=>hlf j (List.mem_of_mem_drop hj)) (by rw[dp_]; omega),ab_]
  dsimp only
  rw[ac_ (show ¬(y :: ys)=[] by simp)]
  have hany:(y :: ys).any (iy lft rest i)=(iy lft rest i y || ys.any (iy lft rest i)):=List.any_cons
  by_cases h1:y∈lft.drop i
  ·have hwt:iy lft rest i y=true:=by
    unfold iy
    simp[h1]
   rw[bb_ h1,ae_ rfl,rT hs hlf hre hll hrl hi hln hlnl ys [y] true rfl,hany,hwt]
  ·have hwt:iy lft rest i y=decide (y∈rest):=by
    unfold iy
    simp[h1]
   rw[bf_ h1,ac_ (by decide),bO (co_ 0) hlt,IK hs hy hre (by omega),ab_]
   dsimp only
   rw[rT hs hlf hre hll hrl hi hln hlnl ys [y] _ rfl,hany,hwt]
end
def MQ (s:List ae) (lft:List Nat) (j:Nat):Prop:=ck (de s j)=none∨dG (bP s) j j ∨ ∀ k∈bP s j,k ∉ lft
theorem Bg {lft:List Nat} (hd:lft.Nodup) (hlf : ∀ k∈lft,k < s.length∧told k=false) : ∀(ys pre rest:List Nat),lft=pre++ys→rest.Sublist pre→(∀ k∈rest,¬MQ s lft k) →
  ∃ rest',iC s (pre.length:Int) (dW s (dy s told given) (rest++ys)) (lft.map (aN s)) (rest.map (aN s))=jS s (dW s (dy s told given) rest') (rest'.map (aN s))∧eO s (pre.length:Int) (dW s (dy s told given) (rest++ys)) (lft.map (aN s)) (rest.map (aN s))=jS s (dW s (dy s told given) rest') (rest'.map (aN s))∧rest'.Sublist lft ∧ ∀ k∈rest',¬MQ s lft k
 | [],pre,rest,h,hr,hf=>by
  have e:=br h
  have hpre:lft=pre:=by rw[h]; simp
  refine⟨rest,?_,?_,hpre ▸ hr,hf⟩
  ·rw[zk,aE (by rw[bp_]; exact e),bv_]
  ·rw[wX,aE (by rw[bp_]; exact e),bv_]
 | y :: ys,pre,rest,h,hr,hf=>by
  have hn:=bB hs
  have hlft:=fun k hk=>(hlf k hk).1
  have hll:=vW s.length lft hd hlft
  have hlen:lft.length=pre.length+(ys.length+1):=by rw[h]; simp
  have hrl:=hr.length_le
  have hym:y∈lft:=by rw[h]; simp
  obtain⟨hy,hyt⟩:=hlf y hym
  have hlt:(pre.length:Int) < ((lft.map (aN s)).length:Int):=by rw[bp_]; exact bF h
  have hgt:aw_ (lft.map (aN s)) (ap_ (pre.length:Int)) au.dflt=aN s y:=by
   rw[h,ao_]
   simp
  have hix : ∀ {β:Type} (F:am→Option β),ix (lft.map (aN s)) (pre.length:Int) au.dflt F=F (aN s y):=by
   intro β F
   unfold ix
   rw[ae_ (nn _),ae_ hlt,hgt]
  have hw:IntKind.i64.wrap ((pre.length:Int)+1)=((pre++[y]).length:Int):=aM h (by omega)
  have hd':=hd
  rw[h,gj_] at hd'
  obtain⟨_,hd2,hd3⟩:=hd'
  have hd2:=List.nodup_cons.1 hd2
  have hyr:y ∉ rest:=fun hm=>hd3 y (hr.subset hm) y (by simp) rfl
  have hq : ∀ k,k∈rest++ys↔k∈rest++y :: ys∧k≠y:=by
   intro k
   simp only[bo_,bi_]
   constructor
   ·rintro(e | e)
    ·exact⟨.inl e,fun x=>hyr (x ▸ e)⟩
    ·exact⟨.inr (.inr e),fun x=>hd2.1 (x ▸ e)⟩
   ·rintro⟨e | e | e,hne⟩
    ·exact .inl e
    ·exact bh_ e hne
    ·exact .inr e
  have hsub:rest.Sublist (pre++[y]):=hr.trans (List.sublist_append_left _ _)
  have hput:=aaX (told:=told) hs hg hy (p:=rest++y :: ys) (by simp) hq
  have ihF:=Bg hd hlf ys (pre++[y]) rest (aC h) hsub hf
  have hsz:=dS hs y
  have hrv:la (de s y)=some (((bo (lb (de s y))).1,(bo (lb (de s y))).2,()),()):=by
   have:=oJ (w:=lb (de s y)) (by rw[iR]; omega)
   rw[dM] at this
   exact this
  have hsrc:bV (aN s y) s=de s y:=Em (bN hs) hy
  have hve:=pK (told:=told) (given:=given) (dS hs) y
  rw[ac_ (by simp[hyt])] at hve
  rw[zk,wX,aJ hlt,aJ hlt,bO (nn _) hlt,hix,hgt,PK (by omega),hsrc]
  simp only[ab_,ZV hsz,hrv,hw]
  cases hfo:ck (de s y) with
  | none =>
   rw[hfo] at hve
   simp only[Option.isSome_none,ak_,if_false,bO (nn _) hlt,hix,←hve,hput,ab_]
   exact ihF
  | some f =>
   rw[hfo] at hve
   simp only[Option.isSome_some,if_true,dQ,ab_,bO (nn _) hlt,hix,U1 hs hy]
   by_cases hrc:dG (bP s) y y
   ·simp only[ae_ hrc] at hve
    have hrb:=gm.2 hrc
    simp only[hrb,Bool.not_true,ak_,if_false,bO (nn _) hlt,hix]
    have e5:(vE 5)=dy s told given y:=hve.symm
    simp only[e5,hput,ab_]
    exact ihF
   ·simp only[ac_ hrc] at hve
    have hrb:rR s y=false:=by
     rw[cf_,ne_eq,gm]
     exact hrc
    have hlnl:(bP s y).length≤s.length:=zE s (s9 s y)
    have hre : ∀ k∈rest,k < s.length:=fun k hk=>hlft k (by rw[h]; exact cq_ _ (hr.subset hk))
    have hfin:=aaY hs hlft hre (by omega) (by omega) (i:=pre.length) (by omega) (f:=f) (a:=(vE 5).1) (b:=(vE 5).2.1) (c:=(vE 5).2.2.1) (done:=dW s (dy s told given) (rest++y :: ys)) (ln:=bP s y) (fun k hk=>mR hk) (by omega)
    have hfin2:=rT hs hlft hre (by omega) (by omega) (i:=pre.length) (by omega) (f:=f) (a:=(vE 5).1) (b:=(vE 5).2.1) (c:=(vE 5).2.2.1) (done:=dW s (dy s told given) (rest++y :: ys)) (ln:=bP s y) (fun k hk=>mR hk) (by omega) (bP s y) [] false rfl
    have hfin2:fI s (pre.length:Int) false 0 (dW s (dy s told given) (rest++y :: ys)) (lft.map (aN s)) (rest.map (aN s)) f (vE 5).1 (vE 5).2.1 (vE 5).2.2.1 ((bP s y).map (aN s))=_:=hfin2
    rw[cz_] at hfin2
    have hdrop:lft.drop pre.length=y :: ys:=by rw[h]; simp
    simp only[hrb,Bool.not_false,if_true,bO (nn _) hlt,hix,PQ hs hy,ab_,de_,hfin,hfin2]
    by_cases hwt:(bP s y).any (iy lft rest pre.length)=true
    ·have hfr : ¬MQ s lft y:=by
      rintro(e | e | e)
      ·rw[hfo] at e
       cases e
      ·exact hrc e
      ·obtain⟨k,hk,hkw⟩:=ds_.1 hwt
       refine e k hk ?_
       unfold iy at hkw
       rw[cx_,ai_,ai_] at hkw
       rcases hkw with hkw | hkw
       ·exact List.mem_of_mem_drop hkw
       ·rw[h]
        exact cq_ _ (hr.subset hkw)
     have ihT:=Bg hd hlf ys (pre++[y]) (rest++[y]) (aC h) (hr.append (List.Sublist.refl _)) (fun k hk=>by
      rcases bo_.1 hk with hk | hk
      ·exact hf k hk
      ·rw[be_.1 hk]
       exact hfr)
     have e1:rest.map (aN s)++[aN s y]=(rest++[y]).map (aN s):=by simp
     have e2:(rest++[y])++ys=rest++y :: ys:=by simp
     rw[e2] at ihT
     obtain⟨rest',a1,a2,a3,a4⟩:=ihT
     simp only[ae_ hwt,hix]
     rw[bi (by simp only[bp_,ad_]; omega),e1,hw]
     exact⟨rest',a2,a2,a3,a4⟩
    ·have hno : ∀ k∈bP s y,k ∉ rest++y :: ys:=by
      intro k hk hkm
      apply hwt
      rw[ds_]
      refine⟨k,hk,?_⟩
      unfold iy
      rw[hdrop,cx_,ai_,ai_]
      exact(bo_.1 hkm).symm
     have hev:=Xr hs hg hfo hno hyt hrc
     obtain⟨rest',a1,a2,a3,a4⟩:=ihF
     simp only[ac_ hwt,hev,ab_,hix,hput,hw]
     refine⟨rest',?_,?_,a3,a4⟩
     ·first
      | exact a1
      | exact a2
      | (split <;> first | exact a1 | exact a2)
     ·first
      | exact a1
      | exact a2
      | (split <;> first | exact a1 | exact a2)
theorem SL : ∀(m:Nat) (lft:List Nat),lft.length≤m→lft.Nodup→(∀ k∈lft,k < s.length∧told k=false)→jS s (dW s (dy s told given) lft) (lft.map (aN s))=some ((bc s (dy s told given),()),())
 | m,[],_,_,_=>by
  rw[BD,aE (by simp),Zn]
 | 0,y :: ys,h,_,_=>by simp at h
 | m+1,y :: ys,h,hd,hlf=>by
  obtain⟨rest',a1,_,a3,a4⟩:=Bg hs hg hd hlf (y :: ys) [] [] rfl (List.Sublist.refl _) (fun k hk=>by cases hk)
  have hfree : ∃ j∈y :: ys,MQ s (y :: ys) j:=by
   by_cases hx : ∃ j∈y :: ys,dG (bP s) j j
   ·obtain⟨j,h1,h2⟩:=hx
    exact⟨j,h1,.inr (.inl h2)⟩
   ·obtain⟨i,h1,h2⟩:=YG (L:=bP s) (N:=bs_ s.length) IE (l:=y :: ys) (by simp) (fun i hi hr=>hx ⟨i,hi,hr⟩)
    exact⟨i,h1,.inr (.inr h2)⟩
  obtain⟨j,h1,h2⟩:=hfree
  have hlt:rest'.length < (y :: ys).length:=by
   rcases Nat.lt_or_ge rest'.length (y :: ys).length with e | e
   ·exact e
   ·have:=a3.eq_of_length (Nat.le_antisymm a3.length_le e)
    exact bh_ h2 (a4 j (this ▸ h1))
  have ih:=SL m rest' (by omega) (hd.sublist a3) (fun k hk=>hlf k (a3.subset hk))
  rw[BD,aJ (by simp only[dc_,aj_]; omega)]
  exact a1.trans ih
end
section
variable {s:List ae} (hs:aO s=true) {known:List ah} (hk:known.length≤2000000) (hkv : ∀ c∈known,az c.2.1=true) {ask:List am} (ha:ask.length≤1000000)
include hs hk ha
theorem J2 : ∀(ys pre:List ae) (done:List ah) (left:List am),s=pre++ys→done.length≤pre.length→left.length≤pre.length →
  qp s known ask (pre.length:Int) done left=jS s (done++(ys.filter fun c => !decide (c.1∈ask)).map fun c=>(c.1,f8 known c.1,())) (left++(ys.filter fun c=>decide (c.1∈ask)).map (·.1))
 | [],pre,done,left,h,h1,h2=>by
  rw[BC,aE (br h)]
  simp
 | y :: ys,pre,done,left,h,h1,h2=>by
  have hn:=bB hs
  have hlen:s.length=pre.length+(ys.length+1):=by rw[h]; simp
  rw[BC,aJ (bF h)]
  simp only[bK h,xi _ (show ask.length≤1000000000 by omega),ab_,OU (xs:=known) (by omega)]
  rw[aM h (by omega)]
  by_cases e:y.1∈ask
  ·rw[bb_ e,ae_ rfl,bi (by simp only[ad_]; omega),J2 ys _ _ _ (aC h) (by simp only[af_,ad_]; omega) (by simp only[af_,ad_]; omega)]
   rw[et_ (by simp[e]),fi_ (by simp[e])]
   simp
  ·rw[bf_ e,ac_ (by decide),bi (by simp only[ad_]; omega),J2 ys _ _ _ (aC h) (by simp only[af_,ad_]; omega) (by simp only[af_,ad_]; omega)]
   rw[fi_ (by simp[e]),et_ (by simp[e])]
   simp
include hkv
theorem U3:D0 s known ask=some ((bc s (dy s (fun k => !decide (aN s k∈ask)) fun k=>f8 known (aN s k)),()),()):=by
 have h0:=J2 hs hk ha s [] [] [] rfl (aq_ _) (aq_ _)
 have key : ∀ t:List ae,(bs_ s.length).map (fun i=>s.getD i av.dflt)=t→(t.filter fun c=>decide (c.1∈ask)).map (·.1)=((bs_ s.length).filter fun k=>decide (aN s k∈ask)).map (aN s)∧((t.filter fun c => !decide (c.1∈ask)).map fun c=>((c.1,f8 known c.1,()):ah))=((bs_ s.length).filter fun k => !decide (aN s k∈ask)).map fun k=>(aN s k,f8 known (aN s k),()):=by
  rintro _ rfl
  rw[gd_,gd_,fn_,fn_]
  exact⟨rfl,rfl⟩
 obtain⟨k1,k2⟩:=key s (DB s _)
 have hg : ∀ k,k < s.length→az (f8 known (aN s k))=true:=fun k _=>AP hkv
 have hd:dW s (dy s (fun k => !decide (aN s k∈ask)) fun k=>f8 known (aN s k)) ((bs_ s.length).filter fun k=>decide (aN s k∈ask))=((bs_ s.length).filter fun k => !decide (aN s k∈ask)).map fun k=>(aN s k,f8 known (aN s k),()):=by
  unfold dW
  have e1:((bs_ s.length).filter fun k => !decide (k∈(bs_ s.length).filter fun k=>decide (aN s k∈ask)))=(bs_ s.length).filter fun k => !decide (aN s k∈ask):=by
   refine List.filter_congr fun k hk => ?_
   congr 1
   rw[bw_,ai_,ai_,dm_,ai_]
   exact⟨fun h=>h.2,fun h=>⟨hk,h⟩⟩
  rw[e1]
  refine ew_ fun k hk => ?_
  rw[dm_] at hk
  rw[pK (dS hs) k,ae_ hk.2]
 rw[Ue]
 refine h0.trans ?_
 rw[df_,df_,k1,k2,←hd]
 refine SL hs hg _ _ (aq_ _) (List.Pairwise.filter _ List.nodup_range) (fun k hk => ?_)
 rw[dm_,dy_] at hk
 exact⟨hk.1,by rw[hk.2]; rfl⟩
end
open Classical in
open Classical in
section
variable {s:List ae} (hs:aO s=true) {refs:List am} (hr:refs.length≤120)
include hs
include hr
end
section
variable {s:List ae} (hs:aO s=true)
include hs
variable {refs:List am}
end
theorem LM {s:List ae} {t t':Nat→Bool} {g g':Nat→ac} (ht : ∀ k,k < s.length→t k=t' k) (hg : ∀ k,k < s.length→t k=true→g k=g' k) : ∀(n k:Nat),k < s.length→lZ s t g n k=lZ s t' g' n k
 | 0,k,hk=>rfl
 | n+1,k,hk=>by
  unfold lZ
  rw[←ht k hk]
  by_cases h:t k=true
  ·rw[ae_ h,ae_ h,hg k hk h]
  ·rw[ac_ h,ac_ h,DD fun j hj=>LM ht hg n j hj]
theorem Xs {s:List ae} {t t':Nat→Bool} {g g':Nat→ac} (ht : ∀ k,k < s.length→t k=t' k) (hg : ∀ k,k < s.length→t k=true→g k=g' k) {k:Nat} (hk:k < s.length):dy s t g k=dy s t' g' k:=LM ht hg _ k hk
noncomputable def nU (s:List ae) (k:Nat):ac:=dy s (fun _=>false) (fun _=>v0) k
theorem LN {α:Type} (n k:Nat) (d:α):(bn_ n d).getD k d=d:=by
 rw[ao_,hb_]
 split <;> rfl
section
variable {s:List ae} (hs:aO s=true)
include hs
theorem iJ : ∀ c∈s,c.2.1.size≤9223372036854775807:=fun c hc=>bq_ (qJ hs c hc) (by decide)
theorem IL:vi s=some ((bc s (nU s),()),()):=by
 have hn:=bB hs
 rw[HM,PS (by omega) (iJ hs),ab_,Hq (by omega),Hq (by omega)]
 have e:=Ra (told:=fun _=>false) (given:=fun _=>v0) hs (td:=bn_ s.length false) (gv:=bn_ s.length ap.dflt) (by simp) (by simp) (fun v hv=>by
  rw[List.eq_of_mem_replicate hv]
  exact OV) (fun k _=>(LN _ _ _).symm) (fun k _=>(LN _ _ (v0:ac)).symm)
 rw[e]
 rfl
theorem PX : ∀(ys pre:List ae) (acc:List am),s=pre++ys→acc.length≤pre.length→wB s (pre.length:Int) acc=((D0 s ([]:(List ah)) (acc++ys.map (·.1))).bind fun z1=>(some ((z1.1.1,()),(()))))
 | [],pre,acc,h,ha=>by
  rw[C2,aE (br h)]
  simp
 | y :: ys,pre,acc,h,ha=>by
  have hn:=bB hs
  have hlen:s.length=pre.length+(ys.length+1):=by rw[h]; simp
  rw[C2,aJ (bF h),bK h,bi (by simp only[ad_]; omega),aM h (by omega),PX ys _ _ (aC h) (by simp only[af_,ad_]; omega)]
  simp
theorem Xt:NV s=some ((bc s (nU s),()),()):=by
 have hn:=bB hs
 have h0:=PX hs s [] [] rfl (aq_ _)
 have e:bc s (dy s (fun k => !decide (aN s k∈s.map (·.1))) fun k=>f8 [] (aN s k))=bc s (nU s):=by
  have hm : ∀ k,k < s.length→aN s k∈s.map (·.1):=fun k hk=>ea_.2 ⟨s.getD k av.dflt,km hk,rfl⟩
  refine DD fun k hk=>Xs (fun j hj=>by rw[bb_ (hm j hj)]; rfl) (fun j hj h => ?_) hk
  rw[bb_ (hm j hj)] at h
  cases h
 rw[Wk]
 refine h0.trans ?_
 rw[df_,U3 hs (known:=[]) (by simp) (fun c hc=>by cases hc) (by rw[bp_]; omega),e]
 rfl
end
section
variable {s:List ae} (h1 : ∀ c∈s,c.2.1.size≤9223372036854775807) (h2:s.length≤1000000000)
include h1 h2
variable {old:List ah} (h3 : ∀ c∈old,c.2.1.2.2.1.size≤9223372036854775807) (h4:old.length≤2000000) {ch:List am} (h5:ch.length≤1000000000)
include h3 h4 h5
end
theorem Gr (a b:ak):bq ax a b=decide (a=b):=by
 rw[bw_,ai_]
 exact kJ rfl
noncomputable def gn (s:List ae) (a:ak):List ak:=(s.filter fun c=>cB a c.1).flatMap fun c=>eR c.2.1
noncomputable def xj (a:ak) (F:List ak) (c:ae):List ak:=if cB a c.1=true then aD F (eR c.2.1) else F
theorem Bh (a:ak) : ∀(s:List ae) (F:List ak),s.foldl (xj a) F=aD F (gn s a)
 | [],F=>rfl
 | c :: s,F=>by
  rw[en_,Bh a s]
  unfold xj gn
  by_cases h:cB a c.1=true
  ·rw[ae_ h,fi_ (p:=fun c:ae=>cB a c.1) h,List.flatMap_cons,ko]
  ·rw[ac_ h,et_ (p:=fun c:ae=>cB a c.1) h]
noncomputable def jX (s:List ae):Nat→Nat→List ak→List ak
 | 0,_,F=>F
 | n+1,k,F=>match F[k]? with
  | none=>F
  | some a=>jX s n (k+1) (aD F (gn s a))
noncomputable def fL (s:List ae) (ar:List ak):List ak:=ar++s.flatMap fun c=>eR c.2.1
noncomputable def eB (s:List ae) (ar:List ak):List ak:=jX s (fL s ar).length 0 (aD [] ar)
theorem Bi {s:List ae} {ar:List ak} {a x:ak} (h:x∈gn s a):x∈fL s ar:=by
 unfold gn at h
 unfold fL
 obtain⟨c,h1,h2⟩:=eo_.1 h
 exact ct_ _ (eo_.2 ⟨c,(dm_.1 h1).1,h2⟩)
theorem Zr {s:List ae} (hs : ∀ c∈s,c.2.1.size≤9223372036854775807):(s.flatMap fun c=>eR c.2.1).length≤s.length*60:=by
 induction s with
 | nil=>simp
 | cons c s ih =>
  have h1:=pM (hs c (by simp))
  have h2:=ih fun d hd=>hs d (ar_ _ hd)
  rw[List.flatMap_cons,af_,aj_]
  omega
theorem uA {s:List ae} (hs:aO s=true) {ar:List ak} (ha:ar.length≤60):(fL s ar).length≤7260:=by
 have h1:=bB hs
 have h2:=Zr (iJ hs)
 unfold fL
 rw[af_]
 omega
structure l4 (s:List ae) (ar F:List ak):Prop where
 nd:F.Nodup
 sub : ∀ x∈F,x∈fL s ar
theorem l4.len {s:List ae} {ar F:List ak} (h:l4 s ar F):F.length≤(fL s ar).length:=tg _ _ h.nd h.sub
theorem l4.add {s:List ae} {ar F ks:List ak} (h:l4 s ar F) (hk : ∀ x∈ks,x∈fL s ar):l4 s ar (aD F ks):=⟨uh _ _ h.nd,fun x hx=>by
 rcases(gl _ _ _).1 hx with e | e
 ·exact h.sub x e
 ·exact hk x e⟩
theorem l4.first (s:List ae) (ar:List ak):l4 s ar (aD [] ar):=⟨SG _,fun x hx=>cq_ _ ((IG _ _).1 hx)⟩
theorem Bj {l:List ak} {r:ak} (hl:l.length≤1000000000):eu l r=some ((decide (r∈l),()),()):=by
 have h:fG l (l.length:Int) 0 r.1 r.2.1=some ((mQ (fun y=>bq ax r y) l 0,()),()):=vU (s:=l) (d:=ax.dflt) (p:=fun y=>bq ax r y) (P:=fun j=>fG l (l.length:Int) j r.1 r.2.1) (F:=fun j=>some ((j,()),())) (by omega) (fun j=>v8) l [] rfl
 rw[v7,AD,h]
 simp only[ab_,Bb]
 have e:(l.any fun y=>bq ax r y)=decide (r∈l):=by
  rw[bw_,ds_,ai_]
  constructor
  ·rintro⟨y,hy,h⟩
   rw[Gr,ai_] at h
   rw[h]
   exact hy
  ·intro h
   exact⟨r,h,by rw[Gr,bb_ rfl]⟩
 rw[e]
section
variable {ks:List ak} (hk:ks.length≤100000)
include hk
theorem J3 : ∀(ys pre F:List ak),ks=pre++ys→F.length+ys.length≤1000000→gd ks (ks.length:Int) (pre.length:Int) F=some ((),(aD F ys,()))
 | [],pre,F,h,hb=>by
  rw[ol,aE (br h)]
  rfl
 | y :: ys,pre,F,h,hb=>by
  rw[aj_] at hb
  rw[ol,aJ (bF h),bK h,Bj (by omega),ab_,aM h (by omega)]
  dsimp only
  unfold aD
  by_cases e:y∈F
  ·rw[bb_ e,ac_ (by decide),ae_ e]
   exact J3 ys _ F (aC h) (by omega)
  ·rw[bf_ e,ae_ (by decide),ac_ e,bi (by simp only[ad_]; omega)]
   exact J3 ys _ _ (aC h) (by simp only[af_,ad_]; omega)
theorem Xu : ∀(ys pre F:List ak),ks=pre++ys→F.length+ys.length≤1000000→jQ ks (ks.length:Int) (pre.length:Int) F=some ((),(aD F ys,()))
 | [],pre,F,h,hb=>by
  rw[pB,aE (br h)]
  rfl
 | y :: ys,pre,F,h,hb=>by
  rw[aj_] at hb
  rw[pB,aJ (bF h),bK h,Bj (by omega),ab_,aM h (by omega)]
  dsimp only
  unfold aD
  by_cases e:y∈F
  ·rw[bb_ e,ac_ (by decide),ae_ e]
   exact Xu ys _ F (aC h) (by omega)
  ·rw[bf_ e,ae_ (by decide),ac_ e,bi (by simp only[ad_]; omega)]
   exact J3 hk ys _ _ (aC h) (by simp only[af_,ad_]; omega)
theorem PY {F:List ak} (hb:F.length≤100000):jO ks F=some ((),(aD F ks,())):=by
 rw[CV]
 exact Xu hk ks [] F rfl (by omega)
theorem Gs {sh:List ae} {st:List am} : ∀(ys pre L:List ak),ks=pre++ys→L.length+ys.length≤100000000→gE (ks.length:Int) (pre.length:Int) sh st ks L=some ((),((sh,aD L ys,st,()),()))
 | [],pre,L,h,hb=>by
  rw[pC,aE (br h)]
  rfl
 | y :: ys,pre,L,h,hb=>by
  rw[aj_] at hb
  have hg:aw_ ks (ap_ (pre.length:Int)) ax.dflt=y:=by rw[h]; exact iL
  rw[pC,aJ (bF h),gH h,hg,Bj (by omega),ab_,aM h (by omega)]
  dsimp only
  unfold aD
  by_cases e:y∈L
  ·rw[bb_ e,ac_ (by decide),ae_ e]
   exact Gs ys _ L (aC h) (by omega)
  ·rw[bf_ e,ae_ (by decide),ac_ e,bi (by simp only[ad_]; omega)]
   exact Gs ys _ _ (aC h) (by simp only[af_,ad_]; omega)
theorem SM {sh:List ae} {st:List am} : ∀(ys pre L:List ak),ks=pre++ys→L.length+ys.length≤100000000→im (ks.length:Int) (pre.length:Int) sh L st ks=some ((),((sh,aD L ys,st,()),()))
 | [],pre,L,h,hb=>by
  rw[qx,aE (br h)]
  rfl
 | y :: ys,pre,L,h,hb=>by
  rw[aj_] at hb
  have hg:aw_ ks (ap_ (pre.length:Int)) ax.dflt=y:=by rw[h]; exact iL
  rw[qx,aJ (bF h),gH h,hg,Bj (by omega),ab_,aM h (by omega)]
  dsimp only
  unfold aD
  by_cases e:y∈L
  ·rw[bb_ e,ac_ (by decide),ae_ e]
   exact SM ys _ L (aC h) (by omega)
  ·rw[bf_ e,ae_ (by decide),ac_ e,bi (by simp only[ad_]; omega)]
   exact Gs hk ys _ _ (aC h) (by simp only[af_,ad_]; omega)
end
section
variable {s:List ae} (hs:aO s=true) {ar:List ak} (ha:ar.length≤60)
include hs ha
theorem J4 {L:List ak} {st:List am} {k:Nat} {a:ak} : ∀(ys pre:List ae) (F:List ak),s=pre++ys→l4 s ar F→F[k]? = some a→jg (k:Int) (s.length:Int) (pre.length:Int) s L st F=jd ((k+1:Nat):Int) s L st (ys.foldl (xj a) F)
 | [],pre,F,h,hI,hk=>by
  have hl:=hI.len
  have hu:=uA hs ha
  have hk1:=(ax_.1 hk).1
  rw[qX,aE (br h),fW (by omega) (by omega)]
  rfl
 | y :: ys,pre,F,h,hI,hk=>by
  have hn:=bB hs
  have hl:=hI.len
  have hu:=uA hs ha
  have hk1:=(ax_.1 hk).1
  have hys:y∈s:=by rw[h]; simp
  have hy:y.2.1.size≤9223372036854775807:=iJ hs y hys
  have hg:aw_ s (ap_ (pre.length:Int)) av.dflt=y:=by rw[h]; exact iL
  have hga:aw_ F (ap_ (k:Int)) ax.dflt=a:=by
   rw[ca_,ao_,hk]
   rfl
  have har:=pM hy
  rw[qX,aJ (bF h),gH h,bO (nn _) (by omega),hg,hga,vK,ab_,aM h (by omega),en_]
  dsimp only
  rw[show xj a F y=if cB a y.1=true then aD F (eR y.2.1) else F from rfl]
  by_cases e:cB a y.1=true
  ·rw[ae_ e,ae_ e,ZU hy,ab_,PN (JY hy),ab_]
   show((jO (eR y.2.1) F).bind fun z4=>_)=_
   rw[PY (by omega) (by omega),ab_]
   obtain⟨ex,hex⟩:=kn (eR y.2.1) F
   refine J4 ys _ _ (aC h) (hI.add fun x hx => ?_) ?_
   ·exact ct_ _ (eo_.2 ⟨y,hys,hx⟩)
   ·rw[hex,List.getElem?_append_left hk1]
    exact hk
  ·rw[ac_ e,ac_ e]
   exact J4 ys _ _ (aC h) hI hk
theorem J5 {L:List ak} {st:List am} : ∀(n k:Nat) (F:List ak),l4 s ar F→(fL s ar).length≤k+n→jd (k:Int) s L st F=im ((jX s n k F).length:Int) 0 s L st (jX s n k F)∧l4 s ar (jX s n k F)
 | 0,k,F,hI,hn=>by
  have hl:=hI.len
  rw[qU,aE (by omega)]
  exact⟨rfl,hI⟩
 | n+1,k,F,hI,hn=>by
  have hl:=hI.len
  rw[qU]
  unfold jX
  by_cases hk:k < F.length
  ·have hka:=pL (d:=(ax.dflt:ak)) hk
   rw[aJ (by omega),hka]
   dsimp only
   have h7:=J4 hs ha (L:=L) (st:=st) s [] F rfl hI hka
   rw[Bh] at h7
   obtain⟨h1,h2⟩:=J5 (L:=L) (st:=st) n (k+1) (aD F (gn s (F.getD k ax.dflt))) (hI.add fun x hx=>Bi hx) (by omega)
   exact⟨h7.trans h1,h2⟩
  ·rw[aE (by omega),cj_ (by omega)]
   exact⟨rfl,hI⟩
theorem Xv:l4 s ar (eB s ar):=(J5 hs ha (L:=[]) (st:=[]) _ 0 _ (l4.first s ar) (by omega)).2
theorem LO:(eB s ar).length≤7260:=bq_ (Xv hs ha).len (uA hs ha)
end
theorem Zs {s:List ae} (hs:aO s=true) {f:List ab} (hf:f.length≤60) {L:List ak} {st:List am} (hL:L.length≤10000000):tr f s L st=some ((),((s,aD L (eB s (bZ f)),st,()),())):=by
 have ha:(bZ f).length≤60:=bq_ (II f) hf
 have hlen:=LO hs ha
 obtain⟨h1,_⟩:=J5 hs ha (L:=L) (st:=st) (fL s (bZ f)).length 0 _ (l4.first s (bZ f)) (by omega)
 rw[FT,PN hf,ab_]
 dsimp only
 rw[PY (by omega) (by decide),ab_]
 refine Eq.trans h1 ?_
 exact SM (ks:=eB s (bZ f)) (by omega) (eB s (bZ f)) [] L rfl (by omega)
end Go.Proofs.YthbkdfcmjmmpgaaGreatDoor.Abs
