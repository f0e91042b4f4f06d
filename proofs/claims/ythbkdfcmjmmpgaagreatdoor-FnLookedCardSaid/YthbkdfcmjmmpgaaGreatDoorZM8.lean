/- Plain laws: both readers side by side: what is not two things with an operation between. -/
import Derived.Test.YthbkdfcmjmmpgaaGreatDoorZM7
import Derived.Lib.SplitLaws
import Derived.Test.YthbkdfcmjmmpgaaGreatDoorZM6
set_option linter.unusedVariables false
set_option linter.unusedSimpArgs false
set_option linter.unusedSectionVars false
open Bool renaming and_eq_true→ag_,and_false→gl_,and_true→er_,eq_iff_iff→bw_,false_eq_true→ak_,false_or→cz_,not_false→bm_,not_true→bc_,true_and→bt_
open ByteArray renaming size→ay_,toList→ah_
open Go.IntKind renaming i64→hf_,wrap→he_
open Go.Lib renaming parseIntB→ef_,parseUintB→gn_,parseUintM→fj_
open Int renaming le_refl→co_,tmod_lt_of_pos→ha_
open List renaming all_append→cr_,all_cons→cb_,all_eq_true→cl_,any_eq_true→ds_,append_nil→bv_,cons_append→cs_,dropWhile_cons_of_neg→bj_,dropWhile_cons_of_pos→fq_,drop_succ_cons→bu_,drop_zero→cu_,getD_eq_getElem?_getD→ao_,getElem?_eq_getElem→as_,getElem?_eq_none→cj_,getElem?_of_mem→gv_,getElem_mem→ed_,head?_cons→dg_,length_append→af_,length_cons→aj_,length_map→bp_,length_nil→bl_,length_pos_iff→em_,length_singleton→ad_,length→am_,map_append→gb_,map_cons→dc_,map_map→fn_,mem_cons_of_mem→ar_,mem_cons_self→ep_,mem_cons→bi_,nil_append→df_
open Nat renaming le_trans→bq_,pow_le_pow_right→fs_
open Option renaming bind_some→ab_
open Option.some renaming injEq→bd_
open Prod.mk renaming injEq→fh_
open _root_ renaming ByteArray→aa_,absurd→bh_,decide_eq_false→bf_,decide_eq_true_eq→ai_,decide_eq_true→bb_,decide_false→cy_,decide_true→ck_,if_false→av_,if_neg→ac_,if_pos→ae_,if_true→ba_
namespace Go.Proofs.YthbkdfcmjmmpgaaGreatDoor.Abs
open Go
theorem Lz {p:UInt8→Bool} {c:UInt8} : ∀ {l:aj},c∈l.takeWhile p→p c=true
 | [],h=>by simp at h
 | x :: l,h=>by
  cases hx:p x with
  | true =>
   rw[List.takeWhile_cons_of_pos hx] at h
   rcases bi_.1 h with rfl | h
   ·exact hx
   ·exact Lz h
  | false =>
   rw[List.takeWhile_cons_of_neg (by rw[hx]; decide)] at h
   cases h
theorem YT {w:aj} (hw : ∀ c∈w,bb c=true) (h:(bo w).2=true):(w≠[])↔((bo w).1.1=1∨(bo w).1.1=3):=by
 constructor
 ·intro hne
  obtain⟨k1,k2⟩:=pd h
  rcases sw k1 with e | ⟨n,e,_⟩ | ⟨t,e⟩ | ⟨b,e⟩ | ⟨n,e,h0⟩
  ·rw[e] at k2
   exact bh_ (Db (b:=[]) k2.symm) hne
  ·rw[e]; exact .inl rfl
  ·rw[e] at k2
   exfalso
   have e2:w=39 :: lb t:=by
    have:ba w=ba (39 :: lb t):=by
     rw[←k2]
     show(⟨#[39]⟩:aa_)++t=_
     rw[←dM t,show(⟨#[39]⟩:aa_)=ba [39] from rfl,kN,dl]
     rfl
    exact Db this
   exact bh_ (hw 39 (by rw[e2]; simp)) (by decide)
  ·rw[e]; exact .inr rfl
  ·rw[e] at k2
   exfalso
   have f : ∀ n:Fin 6,1≤n.val→cX (n.val:Int)=ba (35 :: dC (n.val:Int)):=by decide +kernel
   have e2:w=35 :: dC (n.val:Int):=by
    have:ba w=ba (35 :: dC (n.val:Int)):=by
     rw[←k2]
     exact f n h0
    exact Db this
   exact bh_ (hw 35 (by rw[e2]; simp)) (by decide)
 ·rintro hk rfl
  have:(bo []).1.1=0:=rfl
  omega
theorem ZQ {s:aa_} {a:Int} {ns:List ab}:fj 5 s a false ns=wq s a false ns:=by
 rw[CT]
 simp only[ak_,av_,ii]
 rfl
abbrev UM (k:Int):ab:=(4,0,(0,0,(⟨#[]⟩:aa_),()),((0,0,()),false,false,()),((0,0,()),false,false,()),([k]:(List Int)),())
theorem WO:ay_ ⟨#[]⟩≤9223372036854775807:=by decide
theorem rF {s m:aj} {L i j:Int} {l1 l2:aj} {b:Bool} {ns1 ns2:List ab} (hd:Dm b ns1) (h1:l1 <:+ m) (h2:ns1.length≤60) (h3:l2 <:+ s) (h4:ns2.length≤61+m.length):oq s m L (some ((i,()),((ba l1,ns1,b,()),()))) (some ((j,()),((ba s,at' s l2,true,ns2,()),()))) :=
 .inr ⟨i,l1,b,ns1,j,l2,ns2,rfl,hd,h1,h2,rfl,h3,h4⟩
theorem YU {s:aj} (hs:s.length≤200) {n:Nat} (HB:WN s n) {m:aj} (hbm:bl m=m) (hms:m <:+ s) (hmn:m.length≤n) {deep:Int} {ns:List ab} (hd0:0≤deep) (hd:deep+(m.length:Int)≤200) (ho:dN ns=true) (hn:ns.length≤60) :
  oq s m 5 (fe deep (m.takeWhile bb) (m.dropWhile bb) false ns) ((ne (ba s) (at' s m) false ns).bind fun z10=>(fU z10.1.1 1 z10.2.1.1 z10.2.1.2.1 z10.2.1.2.2.1 z10.2.1.2.2.2.1)):=by
 have hml:=aV hms
 have hwl:=mO bb m
 have hrm:m.dropWhile bb <:+ m:=List.dropWhile_suffix _
 have hrs:=an hrm hms
 have hrl:=aV hrm
 rw[Gb (by omega) hms]
 simp only[ab_]
 obtain⟨l',hl',e⟩:=Pl (w:=m.takeWhile bb) (s:=s) (ns:=ns) (by omega) (by omega) mN [] (m.dropWhile bb) rfl hrs
 have e:fU (ba (m.takeWhile bb)) 1 (ba s) (at' s (m.dropWhile bb)) false ns=_:=e
 rw[e]
 have hl's:l' <:+ m:=by
  rcases hl' with rfl | rfl
  ·exact hrm
  ·exact an (aH _) hrm
 have hlb:bl l'=bl (m.dropWhile bb):=by
  rcases hl' with rfl | rfl
  ·rfl
  ·exact dF _
 cases hf:mN.find? (fun k=>decide (dL k=m.takeWhile bb)) with
 | some k =>
  obtain⟨k',hk',hkw,hkm,hne⟩:=Sl (w:=m.takeWhile bb) (by rw[hf]; simp)
  rw[hf] at hk'
  cases hk'
  have hno : ∀ k∈mN,(bo (dL k)).2=false∧(cU (dL k)).2=false:=by decide +kernel
  obtain⟨v1,v2⟩:=hno k hkm
  rw[hkw] at v1 v2
  have hlt:=Sm (l:=m) (by rw[hbm]; exact hne)
  rw[hbm] at hlt
  have ei:fe deep (m.takeWhile bb) (m.dropWhile bb) false ns=gB k deep (ba (m.dropWhile bb)) false ns:=by
   unfold fe
   rw[ac_ (by rw[v1]; simp),ac_ (by rw[v2]; simp),hf]
  rw[ei,qu,ac_ (by decide),show(⟨#[40]⟩:aa_)=ba [40] from rfl,da (by omega)]
  simp only[ab_,io (c:=40) (.inr (.inl rfl)),lm,ad_]
  by_cases h40:(bl (m.dropWhile bb)).head? = some 40
  ·simp only[h40,ck_,er_,hf,ba_,bc_]
   have hdl:=pg h40
   have hds:(bl (m.dropWhile bb)).drop 1 <:+ m:=an (iG _) hrm
   have hb2:=aV (aH ((bl (m.dropWhile bb)).drop 1))
   rw[Md,UL]
   exact(YS hs HB _ _ _ rfl rfl (an hds hms) (an hds hms) (by omega) k deep [] ns hd0 (by omega) (by simp only[bl_]; omega) ho hn).mono (an (aH _) hds)
  ·simp only[h40,cy_,gl_,av_,bm_]
   have e0:mN.find? (fun _=>false)=none:=rfl
   rw[e0]
   simp only
   have es:rB (m.takeWhile bb) s (at' s l') false ns=some ((0,()),((ba s,at' s l',true,ns,()),())):=by
    unfold rB
    rw[ac_ (by rw[v1]; simp),ac_ (by rw[v2]; simp)]
   rw[es,jo]
   simp only[bc_,ak_,av_,gM]
   exact kj (fq hn (Ij (by simp))) (Ik ho) (an (aH _) hrm) rfl (an hl's hms) (by omega)
 | none =>
  have e0:mN.find? (fun k=>decide (dL k=m.takeWhile bb) && ([40]:aj).isPrefixOf (bl (m.dropWhile bb)))=none:=by
   rw[List.find?_eq_none] at hf ⊢
   intro k hk
   have:=hf k hk
   simp only[ai_] at this
   simp[this]
  rw[e0]
  simp only
  unfold rB fe
  rw[hf]
  have hv:=fun h=>YT (w:=m.takeWhile bb) (fun c hc=>Lz hc) h
  by_cases hc:(bo (m.takeWhile bb)).2=true∧m.takeWhile bb≠[]
  ·rw[ae_ hc,ae_ ⟨hc.1,(hv hc.1).1 hc.2⟩,jW]
   exact rD (Sk (bq_ (dV (pd hc.1).1) (by decide))) hlb.symm hrm hl's hms ho hn
  ·rw[ac_ hc,ac_ (fun h=>hc ⟨h.1,(hv h.1).2 h.2⟩)]
   by_cases hp:(cU (m.takeWhile bb)).2=true
   ·rw[ae_ hp,ae_ hp]
    exact rD rfl hlb.symm hrm hl's hms ho hn
   ·rw[ac_ hp,ac_ hp]
    exact rF (Ik ho) hrm hn (an hl's hms) (by omega)
theorem WQ {s:aj} (hs:s.length≤200) {n:Nat} (HB:WN s n) : ∀(k:Nat) (l l0:aj),(bl l).length=k→bl l=bl l0→l <:+ s→l0 <:+ s→(bl l).length≤n → ∀(deep:Int) (ns:List ab),0≤deep→deep+((bl l).length:Int)≤200→dN ns=true→ns.length≤60 →
  oq s (bl l) 5 (eV deep (ba l) false ns) (wq (ba s) (at' s l0) false ns):=by
 intro k
 induction k using Nat.strongRecOn with
 | ind k ih =>
  intro l l0 hk hb hs1 hs2 hln deep ns hd0 hd ho hn
  subst hk
  have hl1:=aV hs1
  have hm1:=aV (aH l)
  have hms:bl l <:+ s:=an (aH l) hs1
  rw[li,aE (by omega),Oh,show(⟨#[45]⟩:aa_)=ba [45] from rfl,show(⟨#[40]⟩:aa_)=ba [40] from rfl,show(⟨#[34]⟩:aa_)=ba [34] from rfl,show(⟨#[35]⟩:aa_)=ba [35] from rfl,show(⟨#[41]⟩:aa_)=ba [41] from rfl,da (by omega),jk (by omega) (by decide) hs2]
  simp only[ab_,ak_,av_,gM,ii,io (c:=45) (.inl rfl),ad_,bm_,bt_,lm,←hb]
  by_cases h45:(bl l).head? = some 45
  ·simp only[h45,ck_,ba_]
   have hlt:=pg h45
   have hX:(bl l).drop 1 <:+ bl l:=gk 1 _
   have hbX:=aV (aH ((bl l).drop 1))
   have hlX:((bl l).drop 1).length < (bl l).length:=by
    obtain⟨t,ht⟩:=iE h45
    rw[ht]
    simp
   rw[wr (by omega) (by omega),ZQ]
   refine rE (ih _ (by omega) _ _ rfl rfl (an hX hms) (an hX hms) (by omega) (deep+1) ns (by omega) (by omega) ho hn) ?_ ?_
   ·intro i x1 x2 ns' e1 e2 e3 e4 e5 _
    exact rD (x:=UM i) rfl e1 (an e2 (an (aH _) hX)) (an e3 (an (aH _) hX)) hms e4 e5
   ·intro i x1 b1 ns1 j x2 ns2 e1 e2 e3 e4 e5
    refine kj (fq e3) e1 (an e2 (an (aH _) hX)) (Pp (x:=UM j) (ns:=ns2) (by omega) WO) e4 ?_
    show(ns2++[UM j]).length≤_
    rw[af_,ad_]
    omega
  ·simp only[h45,cy_,ak_,av_]
   rw[rC (by omega),jk (by omega) (by decide) hms]
   simp only[ab_,dF,bm_,bt_,lm,ad_]
   by_cases h40:(bl l).head? = some 40
   ·have n34 : ¬(bl l).head? = some 34:=by rw[h40]; decide
    have n35 : ¬(bl l).head? = some 35:=by rw[h40]; decide
    simp only[h40,ck_,ba_]
    rw[ac_ (by decide),ac_ (by decide)]
    have hX:(bl l).drop 1 <:+ bl l:=gk 1 _
    have hbX:=aV (aH ((bl l).drop 1))
    have hlX:((bl l).drop 1).length < (bl l).length:=by
     obtain⟨t,ht⟩:=iE h40
     rw[ht]
     simp
    rw[wr (by omega) (by omega)]
    refine rE (HB _ _ rfl (an hX hms) (an hX hms) (by omega) 1 (deep+1) ns (by decide) (by decide) (by omega) (by omega) ho hn) ?_ ?_
    ·intro i x1 x2 ns' e1 e2 e3 e4 e5 _
     have hx1:x1 <:+ bl l:=an e2 (an (aH _) hX)
     have hx2:x2 <:+ bl l:=an e3 (an (aH _) hX)
     have hlx:=aV hx1
     simp only[ak_,av_]
     rw[da (by omega),jk (by omega) (by decide) (an hx2 hms)]
     simp only[ab_,io (c:=41) (.inr (.inr (.inl rfl))),ad_,bm_,bt_,lm,←e1]
     by_cases h41:(bl x1).head? = some 41
     ·simp only[h41,ck_,ba_,bc_,ak_,av_]
      have hd1:(bl x1).drop 1 <:+ bl l:=an (iG x1) hx1
      exact .inl ⟨i,(bl x1).drop 1,(bl x1).drop 1,ns',rfl,rfl,rfl,hd1,hd1,e4,e5,.inr (UK _)⟩
     ·simp only[h41,cy_,av_,bm_,ak_,ba_]
      have hd1:bl x1 <:+ bl l:=an (aH x1) hx1
      exact rF (Ik e4) hd1 e5 (an hd1 hms) (by omega)
    ·intro i x1 b1 ns1 j x2 ns2 e1 e2 e3 e4 e5
     have hx1:x1 <:+ bl l:=an e2 (an (aH _) hX)
     have hlx:=aV hx1
     rw[jk (by omega) (by decide) e4]
     simp only[ab_,bc_,Bool.false_and,ak_,av_,bm_,ba_]
     cases b1 with
     | true =>
      simp only[ba_]
      exact rF ⟨.inl rfl,e1.2⟩ hx1 e3 (an (aH x2) e4) (by omega)
     | false =>
      simp only[ak_,av_]
      rw[da (by omega)]
      simp only[ab_]
      have hdm:dN ns1=false:=e1.1.elim (fun h=>by cases h) id
      refine rF ⟨.inr hdm,e1.2⟩ ?_ e3 (an (aH x2) e4) (by omega)
      split
      ·exact an (an (gk _ _) (aH _)) hx1
      ·exact an (aH _) hx1
   ·simp only[h40,cy_,ak_,av_]
    rw[jk (by omega) (by decide) hms]
    simp only[ab_,dF,bm_,bt_,lm,ad_]
    by_cases h34:(bl l).head? = some 34
    ·simp only[h34,ck_,ba_]
     obtain⟨t,ht⟩:=iE h34
     have htl:t.length+1=(bl l).length:=by rw[ht]; simp
     have hts:t <:+ bl l:=⟨[34],by rw[ht]; rfl⟩
     rw[ht]
     simp only[bu_,cu_]
     rw[AY (by omega),YO (by omega) (an hts hms)]
     cases hq:qt t with
     | none =>
      rw[←ht]
      exact rF (Ik ho) (pf _) hn ⟨s,by simp⟩ (by omega)
     | some p =>
      obtain⟨q1,q2,q3⟩:=WG t p.1 p.2 hq
      show oq s _ 5 (ca _ _ false ns) (cx _ _ _ false ns)
      rw[jW,←ht]
      have hp:=an q1 hts
      refine rD (x:=nC (2,0,ba ([]++p.1),())) (Sk ?_) rfl hp hp hms ho hn
      show(ba ([]++p.1)).size≤_
      rw[aK]
      simp only[df_]
      omega
    ·simp only[h34,cy_,ak_,av_]
     rw[jk (by omega) (by decide) hms]
     simp only[ab_,dF,bm_,bt_,lm,ad_]
     by_cases h35:(bl l).head? = some 35
     ·simp only[h35,ck_,ba_]
      obtain⟨t,ht⟩:=iE h35
      have htl:t.length+1=(bl l).length:=by rw[ht]; simp
      have hts:t <:+ bl l:=⟨[35],by rw[ht]; rfl⟩
      rw[ht]
      simp only[bu_,cu_]
      have es:=Lu (s:=s) (l:=t) (b:=false) (ns:=ns) (by omega) (an hts hms) qH [] rfl
      have es:jG 1 (ba s) (at' s t) false ns=_:=es
      rw[JL (by omega),es]
      cases qH.find? (gZ t) with
      | none =>
       simp only
       rw[←ht]
       exact rF (Ik ho) (pf _) hn (an hts hms) (by omega)
      | some e =>
       simp only
       rw[jW,←ht]
       have hp:=an (gk (dC e).length t) hts
       exact rD (x:=nC (vE e)) (Sk (by show eS.size≤_; decide)) rfl hp hp hms ho hn
     ·simp only[h35,cy_,ak_,av_]
      exact YU hs HB (dF l) hms hln hd0 hd ho hn
noncomputable def Ds:Nat→Int→(Int×Unit)×(lK×Unit)→RS
 | 0,_,z=>some ((z.1.1,()),(z.2.1,()))
 | c+1,L,z=>(dI (L+(c:Int)) z.1.1 z.2.1.1 z.2.1.2.1 z.2.1.2.2.1 z.2.1.2.2.2.1).bind (Ds c L)
theorem JM {L a:Int} {s:aa_} {i:Int} {ns:List ab}:dI L a s i true ns=some ((a,()),((s,i,true,ns,()),())):=by
 rw[wF]
 rfl
theorem Ec : ∀(c:Nat) (L a:Int) (s:aa_) (i:Int) (ns:List ab),Ds c L ((a,()),((s,i,true,ns,()),()))=some ((a,()),((s,i,true,ns,()),()))
 | 0,_,_,_,_,_=>rfl
 | c+1,L,a,s,i,ns=>by
  show(dI _ a s i true ns).bind (Ds c L)=_
  rw[JM]
  exact Ec c L a s i ns
theorem Pq : ∀(c:Nat) (L:Int) (z:(Int×Unit)×(lK×Unit)),Ds (c+1) L z=(Ds c (L+1) z).bind fun z2=>dI L z2.1.1 z2.2.1.1 z2.2.1.2.1 z2.2.1.2.2.1 z2.2.1.2.2.2.1
 | 0,L,z=>by
  show(dI (L+((0:Nat):Int)) z.1.1 z.2.1.1 z.2.1.2.1 z.2.1.2.2.1 z.2.1.2.2.2.1).bind (fun z=>some ((z.1.1,()),(z.2.1,())))=dI L z.1.1 z.2.1.1 z.2.1.2.1 z.2.1.2.2.1 z.2.1.2.2.2.1
  rw[ii,show L+((0:Nat):Int)=L by omega]
 | c+1,L,z=>by
  show(dI (L+((c+1:Nat):Int)) z.1.1 z.2.1.1 z.2.1.2.1 z.2.1.2.2.1 z.2.1.2.2.2.1).bind (Ds (c+1) L)=((dI (L+1+(c:Int)) z.1.1 z.2.1.1 z.2.1.2.1 z.2.1.2.2.1 z.2.1.2.2.2.1).bind (Ds c (L+1))).bind _
  rw[show L+((c+1:Nat):Int)=L+1+(c:Int) by omega,Option.bind_assoc]
  congr 1
  funext y
  exact Pq c L y
theorem Il {s:aa_} {a:Int} {ns:List ab} : ∀(c:Nat) (L:Int),L+(c:Int)=5→1≤L→fj L s a false ns=(fj 5 s a false ns).bind (Ds c L)
 | 0,L,h,_=>by
  have:L=5:=by omega
  subst this
  exact ii.symm
 | c+1,L,h,h1=>by
  have hL : ¬(L == 5)=true:=by simp only[beq_iff_eq]; omega
  rw[CT,ac_ (by decide),ac_ hL,wr (by omega) (by omega),Il c (L+1) (by omega) (by omega),Option.bind_assoc]
  congr 1
  funext z
  exact(Pq c L z).symm
abbrev nB (op a b:Int):ab:=(5,op,(0,0,(⟨#[]⟩:aa_),()),((0,0,()),false,false,()),((0,0,()),false,false,()),([a,b]:(List Int)),())
theorem YV {s m' l1 l2:aj} {L':Int} {x:ab} {ns:List ab} {K:(Int×Unit)×(ri×Unit)→RI} {K':(Int×Unit)×(lK×Unit)→RS} (hsx:xa x=true) (ho:dN ns=true) (hn:ns.length≤60)
  (hg:dN (ns++[x])=true→(ns++[x]).length≤60→oq s m' L' (K (((ns.length:Int),()),((ba l1,ns++[x],false,()),()))) (K' (((ns.length:Int),()),((ba s,at' s l2,false,ns++[x],()),()))))
  (hd : ∀(i:Int) (b1:Bool) (ns1:List ab),Dm b1 ns1→ns1.length≤60→oq s m' L' (K ((i,()),((ba l1,ns1,b1,()),()))) (K' (((ns.length:Int),()),((ba s,at' s l2,true,ns++[x],()),())))) :
  oq s m' L' ((aU x (ba l1) false ns).bind K) ((cx x (ba s) (at' s l2) false ns).bind K'):=by
 have hx:=Po hsx
 obtain⟨i,e,hi⟩:=zy (x:=x) (l:=l1) (b:=false) hn
 rw[e,JI (by omega) hx]
 simp only[ab_]
 by_cases hlt:ns.length < 60
 ·have hi:=hi rfl hlt
  subst hi
  have d60:decide (60≤ns.length)=false:=bf_ (by omega)
  simp only[d60,hlt,and_self,ba_,cz_]
  cases hk:dj x with
  | true =>
   refine hg ?_ ?_
   ·unfold dN at ho ⊢
    rw[cr_,ho]
    simp[hk]
   ·rw[af_,ad_]; omega
  | false =>
   refine hd _ false (ns++[x]) ⟨.inr ?_,Sn (vR ho) hsx⟩ ?_
   ·unfold dN
    rw[cr_]
    simp[hk]
   ·rw[af_,ad_]; omega
 ·have d60:decide (60≤ns.length)=true:=bb_ (by omega)
  rw[d60,ac_ (by omega)]
  simp only[cz_,Bool.true_or]
  exact hd i true ns (Ik ho) hn
theorem YW {s:aj} (hs:s.length≤200) {n:Nat} (HB:WN s n) : ∀(k c:Nat) (l1 l2 M:aj),(bl l1).length=k→bl l1=bl l2→l1 <:+ M→l2 <:+ M→M <:+ s→(bl l1).length≤n → ∀(L left deep:Int) (ns:List ab),1≤L→L+(c:Int)≤5→0≤deep→deep+((bl l1).length:Int)≤200→dN ns=true→ns.length≤60→(ej (bl l1)=0∨cE (ej (bl l1)) < L+(c:Int)) →
  oq s M L (cI L deep left (ba l1) false ns) (Ds c L ((left,()),((ba s,at' s l2,false,ns,()),()))):=by
 intro k
 induction k using Nat.strongRecOn with
 | ind k ih =>
  intro c
  induction c with
  | zero =>
   intro l1 l2 M hk hb hs1 hs2 hMs hln L left deep ns hL0 hL1 hd0 hd ho hn hpost
   have hl1:=aV (an hs1 hMs)
   have hbl:=aV (aH l1)
   obtain⟨o1,o2⟩:=mM (bl l1)
   rw[fJ]
   simp only[bm_,ba_]
   rw[vP (by omega),zA o1 o2 (by omega) (fun h=>by rw[dF]; exact rA h),ae_ (by omega)]
   refine .inl ⟨left,bl l1,l2,ns,rfl,rfl,by rw[dF,hb],an (aH l1) hs1,hs2,ho,hn,?_⟩
   rw[dF]
   omega
  | succ c ihc =>
   intro l1 l2 M hk hb hs1 hs2 hMs hln L left deep ns hL0 hL1 hd0 hd ho hn hpost
   have hl1:=aV (an hs1 hMs)
   have hbl:=aV (aH l1)
   have hs2s:=an hs2 hMs
   obtain⟨o1,o2⟩:=mM (bl l1)
   obtain⟨l',hl',eop⟩:=abN (s:=s) (l:=l2) (ns:=ns) (L:=L+(c:Int)) (by omega) (by omega) hs2s
   have hCh:Ds (c+1) L ((left,()),((ba s,at' s l2,false,ns,()),()))=(dI (L+(c:Int)) left (ba s) (at' s l2) false ns).bind (Ds c L):=rfl
   rw[hCh,wF]
   simp only[bm_,ba_]
   rw[eop,←hb]
   by_cases hop:ej (bl l1)≠0∧cE (ej (bl l1))=L+(c:Int)
   ·rw[ae_ hop]
    have h0 : ¬(ej (bl l1) == 0)=true:=by simpa using hop.1
    unfold AW
    simp only[ab_]
    rw[ac_ h0,←hb,wr (by omega) (by omega)]
    have hlt:=Pn hop.1
    have hX:(bl l1).drop (dx (ej (bl l1))).length <:+ M:=an (gk _ _) (an (aH l1) hs1)
    have hXM:=aV hX
    have hXl:((bl l1).drop (dx (ej (bl l1))).length).length < (bl l1).length:=by
     have:=Pn (l:=bl l1) (by rw[dF]; exact hop.1)
     rw[dF] at this
     exact this
    have hbX:=aV (aH ((bl l1).drop (dx (ej (bl l1))).length))
    rw[fJ]
    simp only[bm_,ba_]
    rw[vP (by omega),zA o1 o2 (by omega) (fun h=>by rw[dF]; exact rA h),ac_ (by omega),dF,hop.2,Option.bind_assoc]
    have hMl:(bl l1).length≤M.length:=aV (an (aH l1) hs1)
    refine rE (HB _ _ rfl (an hX hMs) (an hX hMs) (by omega) (L+(c:Int)+1) deep ns (by omega) (by omega) hd0 (by omega) ho hn) ?_ ?_
    ·intro i x1 x2 ns' e1 e2 e3 e4 e5 e6
     have hx1:x1 <:+ M:=an e2 (an (aH _) hX)
     have hx2:x2 <:+ M:=an e3 (an (aH _) hX)
     have hxl:=aV e2
     have hbx:=aV (aH x1)
     have hxM:=aV hx1
     have hMsl:=aV hMs
     simp only
     rw[Option.bind_assoc]
     refine YV (x:=nB (ej (bl l1)) left i) rfl e4 e5 ?_ ?_
     ·intro a1 a2
      exact ih _ (by omega) (c+1) x1 x2 M rfl e1 hx1 hx2 hMs (by omega) L _ deep _ hL0 hL1 hd0 (by omega) a1 a2 (by omega)
     ·intro i2 b1 ns1 a1 a2
      simp only
      rw[JM]
      simp only[ab_]
      rw[Ec]
      refine kj (AZ _ x1 rfl (fun l' _ deep least b ns d0 d1 hn=>Ea l' deep least b ns d0 d1 hn) L deep i2 b1 ns1 hd0 (by omega) a2) a1 hx1 rfl (an hx2 hMs) ?_
      rw[af_,ad_]
      omega
    ·intro i x1 b1 ns1 j x2 ns2 e1 e2 e3 e4 e5
     have hx1:x1 <:+ M:=an e2 (an (aH _) hX)
     have hxM:=aV hx1
     have hMsl:=aV hMs
     simp only
     rw[Pp (x:=nB (ej (bl l1)) left j) (ns:=ns2) (by omega) WO]
     simp only[ab_]
     rw[JM]
     simp only[ab_]
     rw[Ec]
     obtain⟨i3,l3,b3,ns3,h3,j1,j2,j3⟩:=(fq (x:=nB (ej (bl l1)) left i) (l:=x1) (b:=b1) e3).dm e1
     rw[h3]
     simp only[ab_]
     have hs3:=aV j1
     refine kj (AZ _ l3 rfl (fun l' _ deep least b ns d0 d1 hn=>Ea l' deep least b ns d0 d1 hn) L deep i3 b3 ns3 hd0 (by omega) j3) j2 (an j1 hx1) rfl e4 ?_
     rw[af_,ad_]
     omega
   ·rw[ac_ hop]
    unfold AW
    simp only[ab_]
    rw[ae_ (by rfl)]
    simp only[ab_]
    have hb':bl l1=bl l':=by
     rcases hl' with rfl | rfl
     ·exact hb
     ·rw[dF,hb]
    have hs':l' <:+ M:=by
     rcases hl' with rfl | rfl
     ·exact hs2
     ·exact an (aH l2) hs2
    exact ihc l1 l' M hk hb' hs1 hs' hMs hln L left deep ns hL0 (by omega) hd0 hd ho hn (by omega)
theorem WR {s:aj} (hs:s.length≤200) : ∀ n,WN s n
 | 0=>fun l l0 _ _ _ h=>by omega
 | n+1=>by
  have HB:=WR hs n
  intro l l0 hb hs1 hs2 hln L deep ns hL0 hL1 hd0 hd ho hn
  have hms:bl l <:+ s:=an (aH l) hs1
  have hm:=aV hms
  rw[nR,Il (5 - L).toNat L (by omega) hL0,ZQ]
  refine rE (WQ hs HB _ l l0 rfl hb hs1 hs2 (by omega) deep ns hd0 hd ho hn) ?_ ?_
  ·intro i x1 x2 ns' e1 e2 e3 e4 e5 _
   have hbx:=aV (aH x1)
   have hx:=aV e2
   exact YW hs HB _ (5 - L).toNat x1 x2 (bl l) rfl e1 e2 e3 hms (by omega) L i deep ns' hL0 (by omega) hd0 (by omega) e4 e5 (.inr (by have:=UK (ej (bl x1)); omega))
  ·intro i x1 b1 ns1 j x2 ns2 e1 e2 e3 e4 e5
   have hx:=aV e2
   rw[Ec]
   exact kj (AZ _ x1 rfl (fun l' _ deep least b ns d0 d1 hn=>Ea l' deep least b ns d0 d1 hn) L deep i b1 ns1 hd0 (by omega) e3) e1 e2 rfl e4 e5
theorem JN {ns:List ab} (h:sm ns=true) : ∀ x∈ns,x.2.2.1.2.2.1.size≤9223372036854775807:=by
 unfold sm at h
 rw[cl_] at h
 exact fun x hx=>Po (h x hx)
theorem JO {ns:List ab} (h:sm ns=true) : ∀ x∈ns,x.2.2.2.2.2.1.length≤10000000:=by
 unfold sm at h
 rw[cl_] at h
 intro x hx
 have:=h x hx
 unfold xa at this
 rw[ag_,ai_,ai_] at this
 omega
theorem abO (s:aj):at' s s=0:=by
 unfold at'
 omega
theorem MM {x:aa_} (hx:x.size≤9223372036854775807) : ∃(f:List ab) (b:Bool),kE x=some ((f,b,()),())∧i8 x=some ((f,b,()),())∧(b=true→ef f=true)∧(b=false→f=[]):=by
 obtain⟨s,rfl⟩ : ∃ s,x=ba s:=⟨lb x,(dM x).symm⟩
 rw[Hx,wD,om hx,t6 hx]
 simp only[ab_]
 cases hp:(plain (ba s) && decide (((ba s).size:Int)≤200)) with
 | false=>exact⟨[],false,rfl,rfl,(fun h=>by cases h),fun _=>rfl⟩
 | true =>
  rw[ag_,ai_,aK] at hp
  have hs:s.length≤200:=by omega
  have hbl:=aV (aH s)
  have h:=WR hs (s.length+1) s s rfl (pf s) (pf s) (by omega) 1 0 [] (by decide) (by decide) (by decide) (by omega) rfl (by simp)
  rw[abO] at h
  simp only[bc_,ak_,av_]
  rcases h with⟨i,l1,l2,ns,e1,e2,h1,h2,h3,h4,h5,h6⟩ | ⟨i,l1,b1,ns1,j,l2,ns2,e1,h1,h2,h3,e2,h4,h5⟩
  ·rw[e1,e2]
   simp only[ab_]
   rw[Pe (by omega) (an h3 (aH s)),nD]
   simp only[ab_,ak_,av_]
   have e0:(ah_ (ba (bl l1)) == ah_ (⟨#[]⟩:aa_))=decide (bl l1=[]):=dK (b:=[])
   rw[e0,←h1,aK,lE (by omega) (JN (vR h4)) (JO (vR h4)),lF (by omega) (JN (vR h4)) (JO (vR h4))]
   simp only[ab_]
   by_cases hr:bl l1=[]
   ·rw[aE (by rw[hr]; unfold at'; simp),hr]
    simp only[ck_,bc_,ak_,av_]
    cases hk:ef ns with
    | true=>exact⟨ns,true,rfl,rfl,fun _=>hk,fun h=>by cases h⟩
    | false=>exact⟨[],false,rfl,rfl,(fun h=>by cases h),fun _=>rfl⟩
   ·have hlen:=em_.2 hr
    have hls:=aV (an (an (aH l1) h2) (aH s))
    rw[aJ (by unfold at'; omega)]
    simp only[hr,cy_,bm_,ba_]
    exact⟨[],false,rfl,rfl,(fun h=>by cases h),fun _=>rfl⟩
  ·rw[e1,e2]
   simp only[ab_]
   rw[Pe (by omega) h4,nD]
   simp only[ab_,ba_]
   refine⟨[],false,rfl,?_,(fun h=>by cases h),fun _=>rfl⟩
   cases b1 with
   | true=>rfl
   | false =>
    have hbad:dN ns1=false:=h1.1.elim (fun h=>by cases h) id
    simp only[ak_,av_]
    split
    ·rfl
    ·rw[lE (by omega) (JN h1.2) (JO h1.2)]
     simp only[ab_]
     cases hk:ef ns1 with
     | false=>rfl
     | true =>
      exfalso
      have:dN ns1=true:=by
       unfold dN
       rw[cl_]
       intro y hy
       obtain⟨i,hi⟩:=gv_ hy
       exact(jT hk i y hi).1
      rw[this] at hbad
      cases hbad
def qT:aj→aj
 | []=>[]
 | c :: l=>if c=34 then 34 :: 34 :: qT l else c :: qT l
theorem WS : ∀ l:aj,(qT l).length≤2*l.length
 | []=>by simp[qT]
 | c :: l=>by
  have:=WS l
  unfold qT
  split <;> simp only[aj_] <;> omega
theorem Ps (l:aj) : ∀ pre:aj,(34:UInt8) ∉ pre→qT (pre++l)=pre++qT l
 | [],_=>rfl
 | c :: pre,h=>by
  simp only[bi_,not_or] at h
  rw[cs_,qT,ac_ (fun e=>h.1 e.symm),Ps l pre h.2]
  rfl
theorem UN : ∀(n:Nat) (l:aj),l.length=n→Lib.replaceK [34] [34,34] (l.count 34) l=qT l:=by
 intro n
 induction n using Nat.strongRecOn with
 | ind n ih =>
  intro l hn
  by_cases hm:(34:UInt8)∈l
  ·obtain⟨pre,t,rfl,h2⟩:=Gc 34 l hm
   have hc:(pre++34 :: t).count 34=t.count 34+1:=by
    rw[List.count_append,List.count_eq_zero.2 h2,List.count_cons_self]
    omega
   have hi:Lib.index (pre++34 :: t) [34]=(pre.length:Nat):=by rw[Lib.index_one,JJ 34 t pre h2]
   rw[hc,Lib.replaceK_hit _ _ _ _ _ hi,List.take_left' rfl,Ps _ pre h2]
   have hd:(pre++34 :: t).drop (pre.length+([34]:aj).length)=t:=by
    have:pre++34 :: t=(pre++[34])++t:=by simp
    rw[this,List.drop_left' (by simp)]
   rw[hd,ih t.length (by rw[←hn]; simp; omega) t rfl]
   simp[qT]
  ·rw[List.count_eq_zero.2 hm]
   have:=Ps [] l hm
   rw[bv_] at this
   rw[this]
   simp[qT,Lib.replaceK]
theorem Q6 {l:aj} (hl:l.length≤1000000):strings_ReplaceAll (ba l) (⟨#[34]⟩:aa_) (⟨#[34,34]⟩:aa_)=some ((ba (qT l),()),()):=by
 rw[yP]
 have hcount:Lib.countB (ba l) (ba [34])=l.count 34:=by
  show Lib.count (lb (ba l)) (lb (ba [34]))=_
  rw[dl,dl,Lib.count_one]
 have hle:l.count 34≤l.length:=List.count_le_length
 show(if(ba l).size < 4294967281∧1≤(ba [34]).size∧(ba l).size+Lib.countB (ba l) (ba [34])*(ba [34,34]).size≤140737488355328 then some (((⟨(Lib.replaceAll (lb (ba l)) (lb (ba [34])) (lb (ba [34,34]))).toArray⟩:aa_),()),()) else none)=_
 rw[ae_ ⟨by rw[aK]; omega,by decide,by rw[hcount,aK,aK]; simp only[aj_,bl_]; omega⟩,dl,dl,dl]
 congr 3
 show ba (Lib.replaceAll l [34] [34,34])=_
 unfold Lib.replaceAll Lib.replace Lib.replaceNum
 rw[ac_ (by decide),ae_ (.inl (by decide)),Lib.count_one,UN _ l rfl]
theorem xN {s:aj} (hs:s.length≤1000000) : ∀(l acc:aj),l <:+ s→acc.length+2*l.length≤4000000→od (ba s) (ba acc) (at' s l)=some ((ba (acc++qT l++[34]),()),())
 | [],acc,h,ha=>by
  rw[yW,aE (by rw[aK]; unfold at'; simp),show(⟨#[34]⟩:aa_)=ba [34] from rfl,bT (by simp only[ad_]; simp at ha; omega)]
  simp[qT]
 | c :: l,acc,h,ha=>by
  obtain⟨pre,h1,h2⟩:=pe h
  have hl:pre.length+l.length+1=s.length:=by rw[h1]; simp; omega
  rw[aj_] at ha
  have h':l <:+ s:=an ⟨[c],rfl⟩ h
  have e1:(pre.length:Int)+1=at' s l:=by
   unfold at'
   omega
  have e3:(s.take (pre.length+1)).drop pre.length=[c]:=by
   rw[h1,List.take_append,List.drop_append]
   simp
  rw[yW,h2,aJ (by rw[aK]; omega),lG h1,F6 c 34 (n:=34) rfl,wr (by omega) (by omega),show(pre.length:Int)+1=((pre.length+1:Nat):Int) by omega,zo (by omega) (by omega),e3]
  by_cases hc:c=34
  ·subst hc
   rw[aJ rfl,show(⟨#[34]⟩:aa_)=ba [34] from rfl,bT (by simp only[ad_]; omega),zo (by omega) (by omega),e3,bT (by simp only[af_,ad_]; omega),show((pre.length+1:Nat):Int)=at' s l by omega,xN hs l _ h' (by simp only[af_,ad_]; omega)]
   simp[qT]
  ·rw[aE hc,bT (by simp only[ad_]; omega),show((pre.length+1:Nat):Int)=at' s l by omega,xN hs l _ h' (by simp only[af_,ad_]; omega)]
   simp[qT,hc]
theorem WT {l:aj} (hl:l.length≤1000000):FK (ba l)=some ((ba (34 :: (qT l++[34])),()),()):=by
 rw[QG,show(⟨#[34]⟩:aa_)=ba [34] from rfl]
 have:=xN hl l [34] (pf l) (by simp only[ad_]; omega)
 rw[abO] at this
 rw[this]
 simp
def cr:List aj→aj
 | []=>[]
 | [x]=>x
 | x :: y :: l=>x++44 :: cr (y :: l)
def b7 (f:List ab):Nat→Int→Int→aj
 | 0,_,_=>[]
 | n+1,k,L =>
  let x:=cq f k
  if x.1=1 then(if x.2.2.1.1=2 then 34 :: (qT (lb x.2.2.1.2.2.1)++[34]) else lb (bG x.2.2.1))
  else if x.1=2 then fp x.2.2.2.1
  else if x.1=3 then fp x.2.2.2.1++58 :: fp x.2.2.2.2.1
  else if x.1=4 then 45 :: b7 f n (x.2.2.2.2.2.1.getD 0 0) 5
  else if x.1=5 then
   let b:=b7 f n (x.2.2.2.2.2.1.getD 0 0) (cE x.2.1)++(dx x.2.1++b7 f n (x.2.2.2.2.2.1.getD 1 0) (cE x.2.1+1))
   if cE x.2.1 < L then 40 :: (b++[41]) else b
  else dL x.2.1++40 :: (cr (x.2.2.2.2.2.1.map fun k=>b7 f n k 1)++[41])
theorem E9 : ∀ l:List aj,cr l=Lib.join l [44]
 | []=>rfl
 | [x]=>by rw[Lib.join_one]; rfl
 | x :: y :: l=>by
  rw[cr,E9 (y :: l),Lib.join_cons,Lib.join_cons]
  simp[Lib.joinTail]
theorem Fa (x:aj) : ∀(l:List aj),l≠[]→cr (l++[x])=cr l++44 :: x
 | [y],_=>rfl
 | y :: z :: l,_=>by
  show y++44 :: cr (z :: l++[x])=(y++44 :: cr (z :: l))++44 :: x
  rw[Fa x (z :: l) (by simp)]
  simp
theorem Im : ∀ l:List aj,(cr l).length≤(l.map am_).sum+l.length
 | []=>by simp[cr]
 | [x]=>by simp[cr]
 | x :: y :: l=>by
  have:=Im (y :: l)
  simp only[cr,af_,aj_,dc_,List.sum_cons] at this ⊢
  omega
theorem YX {xs:List aj} (h1:xs.length≤1000) (h2:(cr xs).length≤10000000):strings_Join (xs.map fun x=>ba x) (⟨#[44]⟩:aa_)=some ((ba (cr xs),()),()):=by
 rw[HG]
 have e:(xs.map fun x=>ba x).map (·.data.toList)=xs:=by
  rw[fn_]
  conv=>rhs; rw[←List.map_id xs]
  apply List.map_congr_left
  intro x _
  exact dl x
 show(if(xs.map fun x=>ba x).length≤140737488355328∧(Lib.join ((xs.map fun x=>ba x).map (·.data.toList)) (lb (ba [44]))).length≤140737488355328 then some (((⟨(Lib.join ((xs.map fun x=>ba x).map (·.data.toList)) (lb (ba [44]))).toArray⟩:aa_),()),()) else none)=_
 rw[e,dl,←E9,ae_ ⟨by rw[bp_]; omega,by omega⟩]
theorem Ed {p:bX} (h:bM p.1=true):(fp p).length≤6:=by
 obtain⟨c,r,fc,fr,rfl,h1,h2,h3,h4⟩:=w7 h
 have k1:=rz c
 have k2:=uf h4
 show(tK c r fc fr).length≤6
 unfold tK qD
 simp only[af_]
 cases fc <;> cases fr <;> simp <;> omega
theorem So (k:Int):(dL k).length≤5:=by
 unfold dL
 by_cases hi:k.toNat < 11
 ·have h : ∀ j:Fin 11,(([[],[83,85,77],[77,73,78],[77,65,88],[67,79,85,78,84],[73,70],[65,78,68],[79,82],[78,79,84],[65,66,83],[76,69,78]]:List aj).getD j.val []).length≤5:=by decide
  exact h ⟨k.toNat,hi⟩
 ·rw[ao_,cj_ (by simp; omega)]
  simp
theorem Pt {c:Int→Option (Int×Nat)} {f:List ab} {call:Bool} : ∀(l:List Int) (cur:Int) (h:Nat) (s:Int) (h':Nat),fu c f call l cur h=some (s,h') →
  (∀ kid∈l,∃ p,c kid=some p) ∧ ∀ g:Int→Nat,(∀ kid s' h'',c kid=some (s',h'')→(g kid:Int)≤1000*(kid - s'+1))→(((l.map g).sum:Nat):Int)≤1000*(cur - s)
 | [],cur,h,s,h',e=>by
  simp only[fu,bd_,fh_] at e
  obtain⟨rfl,_⟩:=e
  exact⟨fun _ h=>by simp at h,fun g _=>by simp⟩
 | kid :: l,cur,h,s,h',e=>by
  simp only[fu] at e
  split at e
  ·rename_i hk
   rw[Option.bind_eq_some_iff] at e
   obtain⟨p,hp,e⟩:=e
   obtain⟨k1,k2⟩:=Pt l p.1 _ s h' e
   refine⟨fun kid' hm => ?_,fun g hg => ?_⟩
   ·rcases bi_.1 hm with rfl | hm
    ·exact⟨p,hp⟩
    ·exact k1 kid' hm
   ·have h1:=k2 g hg
    have h2:=hg kid p.1 p.2 hp
    have:=hk.1
    simp only[dc_,List.sum_cons]
    omega
  ·cases e
section
variable {f:List ab}
theorem Io (n:Nat) (k:Int):b7 f n k 0=b7 f n k 1:=by
 cases n with
 | zero=>rfl
 | succ n =>
  have hlv : ∀ j,¬cE j < 0 ∧ ¬cE j < 1:=by
   intro j
   unfold cE
   constructor <;> (repeat' split) <;> omega
  unfold b7
  simp only[(hlv _).1,(hlv _).2,av_]
def UO (f:List ab) (n:Nat) (k:Int):Prop := ∀ L:Int,gC f k L=some ((ba (b7 f n k L),()),())∧nh f k L=some ((ba (b7 f n k L),()),())
theorem Ip {n:Nat} {kids:List Int} {a op:Int} {v:ac} {A B:bX} {kids':List Int} (hop:0≤op∧op≤10) (hl:kids.length≤10) (hk : ∀ k∈kids,UO f n k) (hlen:(cr (kids.map fun k=>b7 f n k 1)).length≤1000000) : ∀(ys pre:List Int),kids=pre++ys →
  lh f kids (kids.length:Int) (pre.length:Int) a op v A B kids' ((pre.map fun k=>b7 f n k 1).map fun x=>ba x)=some ((ba (dL op++40 :: (cr (kids.map fun k=>b7 f n k 1)++[41])),()),())
 | [],pre,h=>by
  rw[bv_] at h
  subst h
  have hf:=So op
  rw[qS,aE (Int.lt_irrefl _),Ii hop.1 hop.2]
  simp only[ab_]
  rw[show(⟨#[40]⟩:aa_)=ba [40] from rfl,bT (by simp only[ad_]; omega),YX (by rw[bp_]; omega) (by omega)]
  simp only[ab_]
  rw[bT (by simp only[af_,ad_]; omega),show(⟨#[41]⟩:aa_)=ba [41] from rfl,bT (by simp only[af_,ad_]; omega)]
  simp
 | y :: ys,pre,h=>by
  rw[qS,aJ (bF h),bK h,(hk y (by rw[h]; simp) 1).1]
  simp only[ab_]
  have hpl:pre.length≤10:=by
   have:=congrArg am_ h
   simp at this
   omega
  rw[bi (by simp only[bp_,ad_]; omega),aM h (by omega)]
  have:=Ip (a:=a) (v:=v) (A:=A) (B:=B) (kids':=kids') hop hl hk hlen ys (pre++[y]) (aC h)
  rw[gb_,gb_] at this
  exact this
theorem Iq {n:Nat} {kids:List Int} {a op:Int} {v:ac} {A B:bX} (hl:kids.length≤10) (hk : ∀ k∈kids,UO f n k) (hlen : ∀ pre ys:List Int,kids=pre++ys→(cr (pre.map fun k=>b7 f n k 1)).length≤1000000) (hop:(dL op).length≤5) : ∀(ys pre:List Int),kids=pre++ys →
  oe f (ba (dL op++40 :: cr (pre.map fun k=>b7 f n k 1))) (pre.length:Int) a op v A B kids=some ((ba (dL op++40 :: (cr (kids.map fun k=>b7 f n k 1)++[41])),()),())
 | [],pre,h=>by
  have h0:=hlen pre [] h
  rw[bv_] at h
  subst h
  rw[yX,aE (Int.lt_irrefl _),show(⟨#[41]⟩:aa_)=ba [41] from rfl,bT (by simp only[af_,aj_,bl_]; omega)]
  simp
 | y :: ys,pre,h=>by
  have h0:=hlen pre (y :: ys) h
  have h1:=hlen (pre++[y]) ys (aC h)
  have hpl:pre.length≤10:=by
   have:=congrArg am_ h
   simp at this
   omega
  have ih:=Iq (a:=a) (v:=v) (A:=A) (B:=B) hl hk hlen hop ys (pre++[y]) (aC h)
  rw[gb_,List.map_singleton] at ih h1
  rw[yX,aJ (bF h)]
  by_cases hp:pre=[]
  ·subst hp
   simp only[df_,List.map_nil,cr] at ih h1 ⊢
   rw[aE (by simp),bK (pre:=[]) h,(hk y (by rw[h]; simp) 0).2,Io]
   simp only[ab_]
   rw[bT (by simp only[af_,aj_,bl_]; omega),aM (pre:=[]) h (by omega)]
   have e:dL op++[40]++b7 f n y 1=dL op++40 :: b7 f n y 1:=by simp
   rw[e]
   exact ih
  ·have hpos:=em_.2 hp
   rw[Fa _ _ (by simpa using hp)] at ih h1
   simp only[af_,aj_] at h1
   rw[aJ (by omega),show(⟨#[44]⟩:aa_)=ba [44] from rfl,bT (by simp only[af_,aj_,bl_]; omega),bK h,(hk y (by rw[h]; simp) 0).2,Io]
   simp only[ab_]
   rw[bT (by simp only[af_,aj_,bl_]; omega),aM h (by omega)]
   have e:dL op++40 :: cr (pre.map fun k=>b7 f n k 1)++[44]++b7 f n y 1=dL op++40 :: (cr (pre.map fun k=>b7 f n k 1)++44 :: b7 f n y 1):=by simp
   rw[e]
   exact ih
end
section
variable {f:List ab}
theorem abP {l:List Int} (h:l.length=2) : ∃ a b,l=[a,b]:=by
 match l,h with
 | [a,b],_=>exact⟨a,b,rfl⟩
theorem JP (hf:f.length≤60) : ∀(n:Nat) (k s:Int) (h:Nat),dR f n k=some (s,h)→UO f n k ∧ ∀ L:Int,((b7 f n k L).length:Int)≤1000*(k - s+1)
 | 0,k,s,h,e=>by simp[dR] at e
 | n+1,k,s,h,e=>by
  have hall:=fQ f (n+1) k s h e
  obtain⟨hs0,hsk,_⟩:=hall
  have IH:=JP hf n
  simp only[dR] at e
  split at e
  ·rename_i h0
   split at e
   ·cases e
   ·rename_i x hx
    split at e
    ·rename_i hok
     obtain⟨q1,q2⟩:=Pt _ _ _ _ _ e
     have hkl:k < 60:=by
      have:=(List.getElem?_eq_some_iff.1 hx).1
      omega
     have hK : ∀ kid∈x.2.2.2.2.2.1,UO f n kid ∧ ∃ s' h',dR f n kid=some (s',h'):=by
      intro kid hm
      obtain⟨p,hp⟩:=q1 kid (List.mem_reverse.2 hm)
      exact⟨(IH kid p.1 p.2 hp).1,p.1,p.2,hp⟩
     have hnode:cq f k=x:=by
      unfold cq
      rw[ao_,hx]
      rfl
     have hfx : ∀ L,b7 f (n+1) k L=(if x.1=1 then(if x.2.2.1.1=2 then 34 :: (qT (lb x.2.2.1.2.2.1)++[34]) else lb (bG x.2.2.1))
      else if x.1=2 then fp x.2.2.2.1
      else if x.1=3 then fp x.2.2.2.1++58 :: fp x.2.2.2.2.1
      else if x.1=4 then 45 :: b7 f n (x.2.2.2.2.2.1.getD 0 0) 5
      else if x.1=5 then(if cE x.2.1 < L then 40 :: ((b7 f n (x.2.2.2.2.2.1.getD 0 0) (cE x.2.1)++(dx x.2.1++b7 f n (x.2.2.2.2.2.1.getD 1 0) (cE x.2.1+1)))++[41]) else(b7 f n (x.2.2.2.2.2.1.getD 0 0) (cE x.2.1)++(dx x.2.1++b7 f n (x.2.2.2.2.2.1.getD 1 0) (cE x.2.1+1))))
      else dL x.2.1++40 :: (cr (x.2.2.2.2.2.1.map fun k=>b7 f n k 1)++[41])):=by
      intro L
      conv=>lhs; unfold b7
      rw[hnode]
     have hI : ∀ L,gC f k L=_:=fun L=>(HF (x0:=f) (x1:=k) (x2:=L)).trans (bU h0 hx)
     have hS : ∀ L,nh f k L=_:=fun L=>(TP (x0:=f) (x1:=k) (x2:=L)).trans (bU h0 hx)
     unfold dj kl at hok
     by_cases c1:x.1=1
     ·rw[ae_ c1] at hok
      simp only[ag_,ai_] at hok
      have hv:=hok.1.1.2
      have hsz:=dV hv
      have b1:(x.1 == 1)=true:=by rw[c1]; rfl
      by_cases c2:x.2.2.1.1=2
      ·have b2:(x.2.2.1.1 == 2)=true:=by rw[c2]; rfl
       have hlb:(lb x.2.2.1.2.2.1).length≤200:=by rw[iR]; exact hsz
       have hq:=WS (lb x.2.2.1.2.2.1)
       have ea : ∀ L,b7 f (n+1) k L=34 :: (qT (lb x.2.2.1.2.2.1)++[34]):=fun L=>by rw[hfx,ae_ c1,ae_ c2]
       refine⟨fun L=>⟨?_,?_⟩,fun L => ?_⟩
       ·rw[hI,ae_ b1,ae_ b2,←dM x.2.2.1.2.2.1,Q6 (by omega)]
        simp only[ab_]
        rw[show(⟨#[34]⟩:aa_)=ba [34] from rfl,bT (by simp only[ad_]; omega),bT (by simp only[af_,ad_]; omega),ea]
        simp
       ·rw[hS,ae_ b1,ae_ b2,←dM x.2.2.1.2.2.1,WT (by omega)]
        simp only[ab_]
        rw[ea]
       ·rw[ea]
        simp only[aj_,af_,bl_]
        omega
      ·have b2 : ¬(x.2.2.1.1 == 2)=true:=by simpa using c2
       have hvs:=Lc hv
       have ea : ∀ L,b7 f (n+1) k L=lb (bG x.2.2.1):=fun L=>by rw[hfx,ae_ c1,ac_ c2]
       refine⟨fun L=>⟨?_,?_⟩,fun L => ?_⟩
       ·rw[hI,ae_ b1,ac_ b2,tx hv,ea,dM]
        rfl
       ·rw[hS,ae_ b1,ac_ b2,eY (cg hv),ae_ hv,ea,dM]
        rfl
       ·rw[ea,iR]
        omega
     rw[ac_ c1] at hok
     have b1 : ¬(x.1 == 1)=true:=by simpa using c1
     by_cases c2:x.1=2
     ·rw[ae_ c2] at hok
      simp only[ag_,ai_] at hok
      have b2:(x.1 == 2)=true:=by rw[c2]; rfl
      have hr:=hok.2
      have hp:=Ed hr
      have ea : ∀ L,b7 f (n+1) k L=fp x.2.2.2.1:=fun L=>by rw[hfx,ac_ c1,ae_ c2]
      refine⟨fun L=>⟨?_,?_⟩,fun L => ?_⟩
      ·rw[hI,ac_ b1,ae_ b2,oG,ae_ hr,ea]
       rfl
      ·rw[hS,ac_ b1,ae_ b2,oH,ae_ hr,ea]
       rfl
      ·rw[ea]
       omega
     rw[ac_ c2] at hok
     have b2 : ¬(x.1 == 2)=true:=by simpa using c2
     by_cases c3:x.1=3
     ·rw[ae_ c3] at hok
      simp only[ag_,ai_] at hok
      have b3:(x.1 == 3)=true:=by rw[c3]; rfl
      have ha:=hok.2
      unfold lC at ha
      simp only[ag_,ai_] at ha
      have hr1:=ha.1.1.1
      have hr2:=ha.1.1.2
      have hp1:=Ed hr1
      have hp2:=Ed hr2
      have ea : ∀ L,b7 f (n+1) k L=fp x.2.2.2.1++58 :: fp x.2.2.2.2.1:=fun L=>by rw[hfx,ac_ c1,ac_ c2,ae_ c3]
      refine⟨fun L=>⟨?_,?_⟩,fun L => ?_⟩
      ·rw[hI,ac_ b1,ac_ b2,ae_ b3,oG,ae_ hr1]
       simp only[ab_]
       rw[show(⟨#[58]⟩:aa_)=ba [58] from rfl,bT (by simp only[ad_]; omega),oG,ae_ hr2]
       simp only[ab_]
       rw[bT (by simp only[af_,ad_]; omega),ea]
       simp
      ·rw[hS,ac_ b1,ac_ b2,ae_ b3,oH,ae_ hr1]
       simp only[ab_]
       rw[show(⟨#[58]⟩:aa_)=ba [58] from rfl,bT (by simp only[ad_]; omega),oH,ae_ hr2]
       simp only[ab_]
       rw[bT (by simp only[af_,ad_]; omega),ea]
       simp
      ·rw[ea]
       simp only[af_,aj_]
       omega
     rw[ac_ c3] at hok
     have b3 : ¬(x.1 == 3)=true:=by simpa using c3
     by_cases c4:x.1=4
     ·rw[ae_ c4] at hok
      simp only[ag_,ai_] at hok
      have b4:(x.1 == 4)=true:=by rw[c4]; rfl
      obtain⟨a,hkids⟩ : ∃ a,x.2.2.2.2.2.1=[a]:=List.length_eq_one_iff.1 (by omega)
      obtain⟨hka,sa,ha,hca⟩:=hK a (by rw[hkids]; simp)
      rw[hkids] at e q2 hI hS hfx
      have hla:=fun L=>(IH a sa ha hca).2 L
      simp only[List.reverse_singleton,fu] at e
      split at e
      ·rename_i hc
       rw[hca] at e
       simp only[ab_,bd_,fh_] at e
       obtain⟨rfl,_⟩:=e
       have ea : ∀ L,b7 f (n+1) k L=45 :: b7 f n a 5:=fun L=>by rw[hfx,ac_ c1,ac_ c2,ac_ c3,ae_ c4]; rfl
       have h5:=hla 5
       refine⟨fun L=>⟨?_,?_⟩,fun L => ?_⟩
       ·rw[hI,ac_ b1,ac_ b2,ac_ b3,ae_ b4,bU (y:=a) (by decide) rfl,(hka 5).1]
        simp only[ab_]
        rw[show(⟨#[45]⟩:aa_)=ba [45] from rfl,bT (by simp only[ad_]; omega),ea]
        rfl
       ·rw[hS,ac_ b1,ac_ b2,ac_ b3,ae_ b4,bU (y:=a) (by decide) rfl,(hka 5).2]
        simp only[ab_]
        rw[show(⟨#[45]⟩:aa_)=ba [45] from rfl,bT (by simp only[ad_]; omega),ea]
        rfl
       ·rw[ea]
        simp only[aj_]
        omega
      ·cases e
     rw[ac_ c4] at hok
     have b4 : ¬(x.1 == 4)=true:=by simpa using c4
     by_cases c5:x.1=5
     ·rw[ae_ c5] at hok
      simp only[ag_,ai_] at hok
      have b5:(x.1 == 5)=true:=by rw[c5]; rfl
      obtain⟨o1,o2⟩:=bm.1 hok.1.1.1.1
      obtain⟨a,b,hkids⟩ : ∃ a b,x.2.2.2.2.2.1=[a,b]:=abP (by omega)
      obtain⟨hka,sa,ha,hca⟩:=hK a (by rw[hkids]; simp)
      obtain⟨hkb,sb,hb,hcb⟩:=hK b (by rw[hkids]; simp)
      rw[hkids] at e q2 hI hS hfx
      have hla:=fun L=>(IH a sa ha hca).2 L
      have hlb:=fun L=>(IH b sb hb hcb).2 L
      have hsa:=fQ f n a sa ha hca
      have hsb:=fQ f n b sb hb hcb
      simp only[List.reverse_cons,List.reverse_nil,df_,cs_,fu] at e
      split at e
      ·rename_i hc
       rw[hcb] at e
       simp only[ab_] at e
       split at e
       ·rename_i hc2
        rw[hca] at e
        simp only[ab_,bd_,fh_] at e
        obtain⟨rfl,_⟩:=e
        have hlv:1≤cE x.2.1∧cE x.2.1≤4:=by
         unfold cE
         constructor <;> (repeat' split) <;> omega
        have ho:=zx x.2.1
        have h1:=hla (cE x.2.1)
        have h2:=hlb (cE x.2.1+1)
        have i1:=hsa.2.1
        have i2:=hsb.2.1
        have ea : ∀ L,b7 f (n+1) k L=if cE x.2.1 < L then 40 :: ((b7 f n a (cE x.2.1)++(dx x.2.1++b7 f n b (cE x.2.1+1)))++[41]) else(b7 f n a (cE x.2.1)++(dx x.2.1++b7 f n b (cE x.2.1+1))):=fun L=>by rw[hfx,ac_ c1,ac_ c2,ac_ c3,ac_ c4,ae_ c5]; rfl
        refine⟨fun L=>⟨?_,?_⟩,fun L => ?_⟩
        ·rw[hI,ac_ b1,ac_ b2,ac_ b3,ac_ b4,ae_ b5,Lr o1 o2]
         simp only[ab_]
         rw[bU (y:=a) (by decide) rfl,(hka _).1]
         simp only[ab_]
         rw[AU (by omega) o2]
         simp only[ab_]
         rw[bT (by omega),bU (y:=b) (by decide) rfl,wr (by omega) (by omega),(hkb _).1]
         simp only[ab_]
         rw[bT (by simp only[af_]; omega),ea]
         by_cases hL:cE x.2.1 < L
         ·rw[aJ hL,ae_ hL,show(⟨#[40]⟩:aa_)=ba [40] from rfl,bT (by simp only[af_,ad_]; omega),show(⟨#[41]⟩:aa_)=ba [41] from rfl,bT (by simp only[af_,ad_]; omega)]
          simp
         ·rw[aE hL,ac_ hL]
          simp
        ·rw[hS,ac_ b1,ac_ b2,ac_ b3,ac_ b4,ae_ b5,xM]
         simp only[ab_]
         rw[bU (y:=a) (by decide) rfl,(hka _).2]
         simp only[ab_]
         rw[ug (by omega) o2]
         simp only[ab_]
         rw[bT (by omega),bU (y:=b) (by decide) rfl,wr (by omega) (by omega),(hkb _).2]
         simp only[ab_]
         rw[bT (by simp only[af_]; omega),ea]
         by_cases hL:cE x.2.1 < L
         ·rw[aJ hL,ae_ hL,show(⟨#[40]⟩:aa_)=ba [40] from rfl,bT (by simp only[af_,ad_]; omega),show(⟨#[41]⟩:aa_)=ba [41] from rfl,bT (by simp only[af_,ad_]; omega)]
          simp
         ·rw[aE hL,ac_ hL]
          simp
        ·rw[ea]
         split <;> simp only[af_,aj_,bl_] <;> omega
       ·cases e
      ·cases e
     rw[ac_ c5] at hok
     have b5 : ¬(x.1 == 5)=true:=by simpa using c5
     by_cases c6:x.1=6
     ·rw[ae_ c6] at hok
      simp only[ag_,ai_] at hok
      have hargs:=hok.1.1.1
      have hkn:1≤x.2.2.2.2.2.1.length∧x.2.2.2.2.2.1.length≤10∧0≤x.2.1∧x.2.1≤10:=by
       unfold kM at hargs
       split at hargs
       ·simp only[Bool.or_eq_true,ai_] at hargs
        omega
       ·split at hargs
        ·rename_i hi
         have:=bm.1 hi
         have:=bm.1 hargs
         omega
        ·split at hargs
         ·rename_i hi
          have:=bm.1 hi
          simp only[ai_] at hargs
          omega
         ·cases hargs
      have hg:=q2 (fun kid=>(b7 f n kid 1).length) (fun kid s' h'' hc=>(IH kid s' h'' hc).2 1)
      rw[List.map_reverse,List.sum_reverse] at hg
      have hfn:=So x.2.1
      have hcl : ∀ l:List Int,(cr (l.map fun k=>b7 f n k 1)).length≤(l.map fun k=>(b7 f n k 1).length).sum+l.length:=by
       intro l
       have:=Im (l.map fun k=>b7 f n k 1)
       rw[fn_,bp_] at this
       exact this
      have hc0:=hcl x.2.2.2.2.2.1
      have ea : ∀ L,b7 f (n+1) k L=dL x.2.1++40 :: (cr (x.2.2.2.2.2.1.map fun k=>b7 f n k 1)++[41]):=fun L=>by rw[hfx,ac_ c1,ac_ c2,ac_ c3,ac_ c4,ac_ c5]
      refine⟨fun L=>⟨?_,?_⟩,fun L => ?_⟩
      ·rw[hI,ac_ b1,ac_ b2,ac_ b3,ac_ b4,ac_ b5,ea]
       exact Ip ⟨hkn.2.2.1,hkn.2.2.2⟩ hkn.2.1 (fun k hk=>(hK k hk).1) (by omega) _ [] rfl
      ·rw[hS,ac_ b1,ac_ b2,ac_ b3,ac_ b4,ac_ b5,Pj hkn.2.2.1 hkn.2.2.2]
       simp only[ab_]
       rw[show(⟨#[40]⟩:aa_)=ba [40] from rfl,bT (by simp only[ad_]; omega),ea]
       refine Iq hkn.2.1 (fun k hk=>(hK k hk).1) (fun pre ys hpy => ?_) hfn _ [] rfl
       have h1:=hcl pre
       have h2:(pre.map fun k=>(b7 f n k 1).length).sum≤(x.2.2.2.2.2.1.map fun k=>(b7 f n k 1).length).sum:=by
        rw[hpy,gb_,List.sum_append]
        omega
       have h3:=congrArg am_ hpy
       rw[af_] at h3
       omega
      ·rw[ea]
       simp only[af_,aj_,bl_]
       omega
     ·rw[ac_ c6] at hok
      cases hok
    ·cases e
  ·cases e
theorem JQ (hl:f.length≤10000000) (hs : ∀ x∈f,x.2.2.1.2.2.1.size≤9223372036854775807) (hk : ∀ x∈f,x.2.2.2.2.2.1.length≤10000000) : ∃ t:aj,qk f=some ((ba t,()),())∧qh f=some ((ba t,()),())∧t.length≤200:=by
 rw[wE,wC,lE hl hs hk,lF hl hs hk]
 simp only[ab_]
 cases ho:ef f with
 | false=>exact⟨[],rfl,rfl,by simp⟩
 | true =>
  simp only[bc_,ak_,av_]
  have ho':=ho
  unfold ef at ho'
  rw[ag_] at ho'
  have hlen:=bm.1 ho'.1
  have ht:=ho'.2
  unfold sX at ht
  cases hc:dR f f.length ((f.length:Int) - 1) with
  | none=>rw[hc] at ht; cases ht
  | some p =>
   obtain⟨h1,h2⟩:=JP (by omega) f.length ((f.length:Int) - 1) p.1 p.2 hc
   rw[wr (by omega) (by omega),(h1 1).1,(h1 0).2,Io]
   simp only[ab_,aK]
   by_cases hb:(b7 f f.length ((f.length:Int) - 1) 1).length > 200
   ·rw[aJ (by omega)]
    exact⟨[],rfl,rfl,by simp⟩
   ·rw[aE (by omega)]
    exact⟨_,rfl,rfl,by omega⟩
end
def Ok {α:Type} (P:α→Prop) (o:Option α):Prop := ∃ a,o=some a∧P a
theorem Ok.one {α:Type} {P:α→Prop} {a:α} (h:P a):Ok P (some a):=⟨a,rfl,h⟩
theorem Ok.bnd {α β:Type} {P:α→Prop} {Q:β→Prop} {o:Option α} {f:α→Option β} (h:Ok P o) (k : ∀ a,P a→Ok Q (f a)):Ok Q (o.bind f):=by
 obtain⟨a,e,p⟩:=h
 rw[e]
 exact k a p
theorem Ok.ite {α:Type} {c:Prop} [Decidable c] {Q:α→Prop} {a b:Option α} (h:c→Ok Q a) (k : ¬c→Ok Q b):Ok Q (if c then a else b):=by
 by_cases e:c
 ·rw[ae_ e]; exact h e
 ·rw[ac_ e]; exact k e
theorem Ok.inb {α β:Type} {Q:β→Prop} {xs:List α} {i:Int} {k:Option β} (h:0≤i∧i < (xs.length:Int)) (hk:Ok Q k):Ok Q (inb xs i k):=by
 rw[bO h.1 h.2]; exact hk
theorem Ok.cats {β:Type} {Q:β→Prop} {a b:aa_} {f:aa_→Option β} (h:a.size+b.size≤9223372036854775807) (hk:Ok Q (f (a++b))):Ok Q (cats a b f):=by
 rw[gj h]; exact hk
theorem Ok.nz {β:Type} {Q:β→Prop} {b:Int} {k:Option β} (h:b≠0) (hk:Ok Q k):Ok Q (nz b k):=by
 rw[Hs h]; exact hk
theorem Ok.app {α β:Type} {Q:β→Prop} {a b:List α} {n:Nat} {f:List α→Option β} (h:(a.length+b.length)*n≤140737488355328) (hk:Ok Q (f (a++b))):Ok Q (app a b n f):=by
 rw[bi h]; exact hk
theorem Ok.mono {α:Type} {P Q:α→Prop} {o:Option α} (h:Ok P o) (k : ∀ a,P a→Q a):Ok Q o:=by
 obtain⟨a,e,p⟩:=h
 exact⟨a,e,k a p⟩
theorem acw {α β:Type} {xs:List α} {i:Int} {d:α} {f:α→Option β} (h0:0≤i) (h1:i < (xs.length:Int)):ix xs i d f=f (xs.getD i.toNat d):=by
 have hl:i.toNat < xs.length:=by omega
 rw[bU h0 (as_ hl),ao_,as_ hl]
 rfl
theorem WU {l:List aa_} {n:Nat} (h : ∀ x∈l,x.size≤n) (i:Nat) (d:aa_) (hd:d.size≤n):(l.getD i d).size≤n:=by
 rw[ao_]
 by_cases e:i < l.length
 ·rw[as_ e]; exact h _ (ed_ e)
 ·rw[cj_ (by omega)]; exact hd
structure Ir (c:List Int):Prop where
 len:c.length≤1048576
 all : ∀ b∈c,0≤b∧b≤255
def Rd (c:List Int) (s:aI):Prop:=s.1=c∧0≤s.2.1∧s.2.1≤(c.length:Int)
section
variable {c:List Int} (hc:Ir c)
include hc
theorem uv {s:aI} (h:Rd c s):Ok (fun z=>(0≤z.1.1∧z.1.1≤255)∧Rd c z.2.1) (j7 s):=by
 obtain⟨x,i,u⟩:=s
 obtain⟨h1,h2,h3⟩:=h
 simp only at h1 h2 h3
 subst h1
 have hl:=hc.len
 rw[yM]
 show Ok _ (if decide (i≥(x.length:Int))=true then some ((0,()),((x,i,u),())) else ix x (he_ hf_ ((he_ hf_ (i+1)) - 1)) 0 fun y1=>(some (((he_ hf_ y1),()),((x,(he_ hf_ (i+1)),()),()))))
 refine Ok.ite (fun _=>Ok.one ⟨⟨co_ _,by show(0:Int)≤255; decide⟩,rfl,h2,h3⟩) fun e => ?_
 have e':i < (x.length:Int):=by simp only[ai_] at e; omega
 rw[wr (n:=i+1) (by omega) (by omega),wr (n:=i+1 - 1) (by omega) (by omega),show i+1 - 1=i by omega,acw h2 e']
 have hb:0≤x.getD i.toNat 0∧x.getD i.toNat 0≤255:=by
  rw[ao_,as_ (by omega)]
  exact hc.all _ (ed_ _)
 rw[wr (by omega) (by omega)]
 exact Ok.one ⟨hb,rfl,by show(0:Int)≤i+1; omega,by show i+1≤(x.length:Int); omega⟩
theorem rG {n:Int} {s:aI} (h:Rd c s) (hn:1≤n):Ok (fun z=>(0≤z.1.1∧z.1.1 < n)∧Rd c z.2.1) (aA n s):=by
 rw[Hv]
 refine Ok.ite (fun _=>Ok.one ⟨⟨co_ _,by show(0:Int) < n; omega⟩,h⟩) fun _=>Ok.ite (fun _ => ?_) fun _ => ?_
 ·refine Ok.bnd (uv hc h) fun z hz=>Ok.nz (by omega) (Ok.one ⟨⟨Int.tmod_nonneg _ hz.1.1,ha_ _ (by omega)⟩,hz.2⟩)
 ·refine Ok.bnd (uv hc h) fun z hz=>Ok.bnd (uv hc hz.2) fun y hy => ?_
  have h1:=hz.1
  have h2:=hy.1
  rw[wr (n:=z.1.1*256) (by omega) (by omega),wr (by omega) (by omega)]
  exact Ok.nz (by omega) (Ok.one ⟨⟨Int.tmod_nonneg _ (by omega),ha_ _ (by omega)⟩,hy.2⟩)
theorem Pu {s:aI} (h:Rd c s):Ok (fun z=>bM z.1.1=true∧Rd c z.2.1) (bI s):=by
 rw[Oc]
 refine Ok.bnd (rG hc h (by decide)) fun z hz=>Ok.bnd (rG hc hz.2 (by decide)) fun y hy => ?_
 have h1:=hz.1
 have h2:=hy.1
 rw[wr (by omega) (by omega),wr (by omega) (by omega)]
 refine Ok.one ⟨?_,hy.2⟩
 rw[s5]
 show(1≤1+z.1.1∧1+z.1.1≤52)∧1≤1+y.1.1∧1+y.1.1≤99
 omega
theorem JR {n:Int} {s:aI} (h:Rd c s) (hn:1≤n):Ok (fun z=>Rd c z.2.1) (b8 n s):=by
 rw[L5]
 exact Ok.bnd (rG hc h hn) fun z hz=>Ok.one hz.2
theorem Pv : ∀(n:Nat) (x0:Int) (s:aI),n≤8→Rd c s→Ok (fun z=>Rd c z.2.1) (oB x0 (8 - (n:Int)) s)
 | 0,x0,s,_,h=>by
  rw[vp,aE (by omega)]
  exact Ok.one h
 | n+1,x0,s,hn,h=>by
  rw[vp,aJ (by omega)]
  refine Ok.bnd (uv hc h) fun z hz => ?_
  rw[wr (by omega) (by omega),show 8 - ((n+1:Nat):Int)+1=8 - (n:Int) by omega]
  exact Pv n _ _ (by omega) hz.2
theorem aaD {s:aI} (h:Rd c s):Ok (fun z=>Rd c z.2.1) (Ah s):=by
 rw[L7]
 exact Pv hc 8 0 s (Nat.le_refl _) h
theorem aaE {a b:Int} {s:aI} (h:Rd c s) (hab:0≤a∧a≤b∧b≤1000000):Ok (fun z=>Rd c z.2.1) (Ai a b s):=by
 rw[L8]
 refine Ok.bnd (rG hc h (by decide)) fun z hz=>Ok.ite (fun _=>Ok.one hz.2) fun _=>Ok.ite (fun _=>Ok.one hz.2) fun _=>Ok.ite (fun _=>Ok.one hz.2) fun _=>Ok.bnd (aaD hc hz.2) fun y hy => ?_
 refine Ok.nz ?_ (Ok.one hy)
 rw[wr (n:=b - a) (by omega) (by omega),wr (n:=b - a+1) (by omega) (by omega)]
 have:IntKind.u64.wrap (b - a+1)=b - a+1:=by
  show(b - a+1) % 18446744073709551616=_
  omega
 rw[this]
 omega
theorem Pw {a b:Int} {s:aI} (h:Rd c s) (hab:0≤a∧a≤b∧b≤1000000):Ok (fun z=>Rd c z.2.1) (sK a b s):=by
 rw[Od]
 refine Ok.bnd (JR hc h (by decide)) fun z hz=>Ok.ite (fun _ => ?_) fun _ => ?_
 ·exact Ok.bnd (rG hc hz (by decide)) fun y hy=>Ok.inb hy.1 (Ok.one hy.2)
 ·exact Ok.bnd (aaE hc hz hab) fun y hy=>Ok.one hy
theorem aaF {s:aI} (h:Rd c s):Ok (fun z=>Rd c z.2.1) (qg s):=by
 rw[L9]
 refine Ok.bnd (Pu hc h) fun z hz=>Ok.bnd (Pu hc hz.2) fun y hy=>Ok.bnd (JR hc hy.2 (by decide)) fun w hw=>Ok.ite (fun _ => ?_) fun _=>Ok.one hw
 exact Ok.bnd (Pw hc hw (by decide)) fun v hv=>Ok.one hv
end
theorem Q7 (p:bX):Ok (fun z=>z.1.1.size≤10) (dd p):=by
 refine⟨_,oH p,?_⟩
 show(if bM p.1=true then ba (fp p) else ba []).size≤10
 split
 ·rename_i h
  rw[aK]
  have:=Ed h
  omega
 ·rw[aK]; decide
theorem WV {n:Int} (h0:0≤n) (h1:n≤100):Ok (fun z=>z.1.1.size≤20) (cn n):=⟨_,C6 (by omega) (by omega),qy (by omega) (by omega)⟩
theorem UP {k:Int} (h0:0≤k) (h1:k≤11):Ok (fun z=>z.1.1.size≤2) (lL k):=by
 refine⟨_,ug h0 h1,?_⟩
 show(ba (dx k)).size≤2
 rw[aK]
 exact zx k
theorem WW {a:UInt8}:(⟨#[a]⟩:aa_).size=1:=rfl
theorem Sp {a b d:UInt8}:(⟨#[a,b,d]⟩:aa_).size=3:=rfl
theorem Ok.inbL {β:Type} {Q:β→Prop} {l:List aa_} {i n:Int} {k:Option β} (d:aa_) (h0:0≤i) (h1:i < n) (hl:n=(l.length:Int)) (hs : ∀ x∈l,x.size≤20) (hd:d.size≤20) (hk:(l.getD i.toNat d).size≤20→Ok Q k):Ok Q (Abs.inb l i k) :=
 Ok.inb ⟨h0,by omega⟩ (hk (WU hs _ _ hd))
theorem Sq {β:Type} {Q:β→Prop} {p:bX} {f:(aa_×Unit)×Unit→Option β} (k : ∀ z,z.1.1.size≤10→Ok Q (f z)):Ok Q ((dd p).bind f):=Ok.bnd (Q7 p) k
theorem It {β:Type} {Q:β→Prop} {n:Int} {f:(aa_×Unit)×Unit→Option β} (h0:0≤n) (h1:n≤100) (k : ∀ z,z.1.1.size≤20→Ok Q (f z)):Ok Q ((cn n).bind f):=Ok.bnd (WV h0 h1) k
theorem abQ {β:Type} {Q:β→Prop} {n:Int} {f:(aa_×Unit)×Unit→Option β} (h0:0≤n) (h1:n≤11) (k : ∀ z,z.1.1.size≤2→Ok Q (f z)):Ok Q ((lL n).bind f):=Ok.bnd (UP h0 h1) k
theorem aaG {β:Type} {Q:β→Prop} {n:Int} {f:(aa_×Unit)×Unit→Option β} (h0:0≤n) (h1:n < 11) (k : ∀ z,z.1.1.size≤2→Ok Q (f z)):Ok Q ((lL (he_ hf_ (1+n))).bind f):=by
 rw[wr (by omega) (by omega)]
 exact abQ (by omega) (by omega) k
section
variable {c:List Int} (hc:Ir c) {β:Type} {Q:β→Prop} {s:aI}
include hc
theorem rH {n:Int} {f:(Int×Unit)×aI×Unit→Option β} (h:Rd c s) (hn:1≤n) (k : ∀ z,0≤z.1.1→z.1.1 < n→Rd c z.2.1→Ok Q (f z)):Ok Q ((aA n s).bind f):=Ok.bnd (rG hc h hn) fun z hz=>k z hz.1.1 hz.1.2 hz.2
theorem s6 {n:Int} {f:(Bool×Unit)×aI×Unit→Option β} (h:Rd c s) (hn:1≤n) (k : ∀ z,Rd c z.2.1→Ok Q (f z)):Ok Q ((b8 n s).bind f):=Ok.bnd (JR hc h hn) k
theorem sx {f:(am×Unit)×aI×Unit→Option β} (h:Rd c s) (k : ∀ z,bM z.1.1=true→Rd c z.2.1→Ok Q (f z)):Ok Q ((bI s).bind f):=Ok.bnd (Pu hc h) fun z hz=>k z hz.1 hz.2
theorem abR {f:(ak×Unit)×aI×Unit→Option β} (h:Rd c s) (k : ∀ z,Rd c z.2.1→Ok Q (f z)):Ok Q ((qg s).bind f):=Ok.bnd (aaF hc h) k
theorem aaH {m q:Nat} {f:(aa_×Unit)×aI×Unit→Option β} (ih : ∀ {s:aI},Rd c s→Ok (fun y=>y.1.1.size≤100*q∧Rd c y.2.1) (bu (m:Int) s)) (h:Rd c s) (k : ∀ z,z.1.1.size≤100*q→Rd c z.2.1→Ok Q (f z)):Ok Q ((bu (m:Int) s).bind f):=Ok.bnd (ih h) fun z hz=>k z hz.1 hz.2
end
set_option maxHeartbeats 4000000 in
theorem Px {c:List Int} (hc:Ir c) : ∀(n:Nat) {s:aI},n≤3→Rd c s→Ok (fun y=>y.1.1.size≤100*4 ^ n∧Rd c y.2.1) (bu (n:Int) s)
 | n,s,hn,h=>by
  have h1:1≤4 ^ n:=Nat.one_le_pow _ _ (by decide)
  rw[Jp]
  refine Ok.ite (fun _ => ?_) fun e => ?_
  ·generalize 4 ^ n=q at h1 ⊢
   repeat' first
    | refine rH hc (by assumption) (by decide) fun _ _ _ _ => ?_
    | refine sx hc (by assumption) fun _ _ _ => ?_
    | refine s6 hc (by assumption) (by decide) fun _ _ => ?_
    | refine Sq fun _ _ => ?_
    | refine It (by omega) (by omega) fun _ _ => ?_
    | refine Ok.inbL ⟨#[]⟩ (by assumption) (by assumption) (by decide) (by decide) (by decide) fun _ => ?_
    | refine Ok.ite (fun _ => ?_) fun _ => ?_
    | refine Ok.one ⟨?_,by assumption⟩
   all_goals (try dsimp only)
   all_goals omega
  ·have hn0:n≠0:=fun k=>e (by subst k; rfl)
   obtain⟨m,rfl⟩ : ∃ m,n=m+1:=⟨n - 1,by omega⟩
   have hw:IntKind.i64.wrap (((m+1:Nat):Int) - 1)=(m:Int):=by rw[wr (by omega) (by omega)]; omega
   have ih:=fun {s:aI} (h:Rd c s)=>Px hc m (s:=s) (by omega) h
   have hp:4 ^ (m+1)=4*4 ^ m:=by rw[Nat.pow_succ,Nat.mul_comm]
   have h2:1≤4 ^ m:=Nat.one_le_pow _ _ (by decide)
   have h64:4 ^ m≤64:=bq_ (fs_ (by decide) (by omega:m≤3)) (by decide)
   rw[hp]
   simp only[hw]
   generalize 4 ^ m=q at ih h2 h64 ⊢
   repeat' first
    | refine rH hc (by assumption) (by decide) fun _ _ _ _ => ?_
    | refine sx hc (by assumption) fun _ _ _ => ?_
    | refine s6 hc (by assumption) (by decide) fun _ _ => ?_
    | refine abR hc (by assumption) fun _ _ => ?_
    | refine aaH hc ih (by assumption) fun _ _ _ => ?_
    | refine Sq fun _ _ => ?_
    | refine It (by omega) (by omega) fun _ _ => ?_
    | refine aaG (by assumption) (by assumption) fun _ _ => ?_
    | refine Ok.inbL ⟨#[]⟩ (by assumption) (by assumption) (by decide) (by decide) (by decide) fun _ => ?_
    | (refine Ok.cats (by simp only[size_append,WW,Sp]; omega) ?_; try dsimp only)
    | refine Ok.ite (fun _ => ?_) fun _ => ?_
    | refine Ok.one ⟨?_,by assumption⟩
   all_goals (try dsimp only)
   all_goals (try simp only[size_append,WW,Sp])
   all_goals omega
theorem aaI (c:List Int):Yb c=some ((decide (1048576 < (c.length:Int)),()),()):=by rw[aak]
theorem WX {x:List Int} (h:x.length≤maxLen ∧ ∀ b∈x,Cf (.int .u8) b) (hl : ¬1048576 < (x.length:Int)):Ir x:=by
 refine⟨by omega,fun b hb => ?_⟩
 have:(decide (IntKind.u8.min≤b) && decide (b≤IntKind.u8.max))=true:=h.2 b hb
 simp only[ag_,ai_] at this
 have e1:IntKind.u8.min=0:=rfl
 have e2:IntKind.u8.max=255:=rfl
 omega
def sy (x:ab):Bool:=decide (x.1=2) || decide (x.1=3)
def bZ (f:List ab):List ak:=(f.filter sy).map dB
def jy (ar:List ak) (l:List ah):List ah:=l.filter fun c=>ar.any fun a=>cB a c.1
theorem YY (r:am):cB (r,r,()) r=true:=by
 unfold cB
 rw[ag_,bm,bm]
 exact⟨⟨co_ _,co_ _⟩,co_ _,co_ _⟩
theorem Py {ar:List ak} {r:am} (h : ∃ a∈ar,cB a r=true) : ∀ l:List ah,f8 (jy ar l) r=f8 l r
 | []=>rfl
 | c :: l=>by
  have ih:=Py h l
  unfold jy at ih ⊢
  rw[List.filter_cons]
  by_cases hc:(ar.any fun a=>cB a c.1)=true
  ·rw[ae_ hc]
   unfold f8
   rw[ih]
  ·rw[ac_ hc,ih]
   have:c.1≠r:=by
    rintro rfl
    exact hc (ds_.2 h)
   conv=>rhs; unfold f8
   rw[ac_ this]
theorem YZ {ar:List ak} {a:ak} (h:a∈ar) (l:List ah):jj (jy ar l) a=jj l a:=by
 unfold jj jy
 rw[List.filter_filter]
 congr 1
 refine List.filter_congr fun c _ => ?_
 cases hc:cB a c.1 with
 | false=>rfl
 | true =>
  rw[bt_]
  exact ds_.2 ⟨a,h,hc⟩
section
variable {f:List ab} {l:List ah}
theorem Y0 {k:Int} (h0:0≤k) (h1:k < f.length):cq f k∈f:=by
 unfold cq
 rw[ao_,as_ (by omega)]
 exact ed_ _
theorem LA {x:ab} (h:x∈f) (k:sy x=true):dB x∈bZ f:=List.mem_map_of_mem (List.mem_filter.2 ⟨h,k⟩)
theorem Pz {ev ev':Int→ac} : ∀ ks:List Int,(∀ k∈ks,0≤k∧k < f.length)→(∀ k∈ks,ev' k=ev k)→jq ev' f (jy (bZ f) l) ks=jq ev f l ks
 | [],_,_=>rfl
 | k :: ks,hb,he=>by
  unfold jq
  rw[Pz ks (fun j hj=>hb j (ar_ _ hj)) (fun j hj=>he j (ar_ _ hj)),he k ep_]
  by_cases h3:(cq f k).1=3
  ·have hb:=hb k ep_
   rw[ae_ h3,ae_ h3,YZ (LA (Y0 hb.1 hb.2) (by unfold sy; rw[h3]; rfl))]
  ·rw[ac_ h3,ac_ h3]
theorem PA (A : ∀(i:Nat) (x:ab),f[i]? = some x→lD f i x) : ∀(n:Nat) (k:Int),0≤k→k < n→k < f.length→cb n f (jy (bZ f) l) k=cb n f l k
 | 0,k,h0,h1,_=>by omega
 | n+1,k,h0,h1,h2=>by
  obtain⟨x,hx⟩ : ∃ y,f[k.toNat]? = some y:=⟨f[k.toNat]'(by omega),as_ _⟩
  have hst:=A _ _ hx
  have hnx:cq f k=x:=by
   unfold cq
   rw[ao_,hx]
   rfl
  have hm:x∈f:=List.mem_of_getElem? hx
  have hb : ∀ j∈x.2.2.2.2.2.1,0≤j∧j < f.length:=fun j hj=>by
   have:=hst.2 j hj
   omega
  have hk : ∀ j∈x.2.2.2.2.2.1,cb n f (jy (bZ f) l) j=cb n f l j:=fun j hj=>by
   have:=hst.2 j hj
   exact PA A n j this.1 (by omega) (by omega)
  have h00:cb n f (jy (bZ f) l) 0=cb n f l 0:=by
   cases n with
   | zero=>rfl
   | succ n=>exact PA A (n+1) 0 (by omega) (by omega) (by omega)
  have hkid : ∀ i:Nat,cb n f (jy (bZ f) l) (x.2.2.2.2.2.1.getD i 0)=cb n f l (x.2.2.2.2.2.1.getD i 0):=fun i=>by
   rw[ao_]
   by_cases e:i < x.2.2.2.2.2.1.length
   ·rw[as_ e]
    exact hk _ (ed_ e)
   ·rw[cj_ (by omega)]
    exact h00
  unfold cb
  simp only[hnx,hkid]
  have hargs:=Pz (l:=l) (ev:=cb n f l) (ev':=cb n f (jy (bZ f) l)) _ hb hk
  rw[hargs]
  by_cases k2:x.1=2
  ·rw[Py ⟨_,LA hm (by unfold sy; rw[k2]; rfl),?_⟩]
   unfold dB
   rw[ae_ k2]
   exact YY _
  ·rw[ac_ k2,ac_ k2]
end
theorem PB : ∀ {l:List am} {o:Option am},(l.Pairwise fun a b=>jU a b=true)→(∀ a,o=some a → ∀ b∈l,jU a b=true)→tz o l=true
 | [],o,_,_=>by cases o <;> rfl
 | b :: l,o,h,ho=>by
  have h':=List.pairwise_cons.1 h
  rw[Le,PB (o:=some b) h'.2 (fun a e=>by cases e; exact h'.1),er_]
  cases o with
  | none=>rfl
  | some a=>exact ho a rfl b ep_
theorem PC {f:List ab} {l:List ah} (h:ef f=true):eZ f (jy (bZ f) l)=eZ f l:=by
 have hb:cu (f.length:Int) 1 60=true:=by
  unfold ef at h
  simp only[ag_] at h
  exact h.1
 have:=bm.1 hb
 unfold eZ
 rw[PA (jT h) f.length _ (by omega) (by omega) (by omega)]
def js (d:aj):Bool:=d.all dw && decide (bS 0 d≤1000000000000000)
theorem WY {d:aj} (hne:d≠[]) (h:d.length=1∨d.head? ≠ some 48):ki d=d.all dw:=by
 have hl:=em_.2 hne
 unfold ki
 rw[bb_ (show 1≤d.length by omega),er_]
 rcases h with h | h
 ·rw[bb_ h]; simp
 ·rw[bf_ h]; simp
theorem WZ {d:aj} (hne:d≠[]) (h:d.length=1∨d.head? ≠ some 48):(c8 d 16 && decide (bS 0 d≤1000000000000000))=js d:=by
 unfold c8 js
 rw[WY hne h]
 cases ha:d.all dw with
 | false=>simp
 | true =>
  simp only[bt_]
  by_cases hv:bS 0 d≤1000000000000000
  ·have hd:=(Sb d (by rw[WY hne h]; exact ha)).1
   have:=UD hv
   rw[hd] at this
   rw[bb_ this]
   rfl
  ·rw[bf_ hv,gl_]
theorem acx {d:aj} (h:c8 d 16=true):bS 0 d < 10000000000000000:=by
 unfold c8 ki at h
 simp only[ag_,ai_] at h
 have:=D2 d 0 h.1.1.1
 have h2:10 ^ d.length≤10 ^ 16:=fs_ (by decide) h.2
 omega
theorem Y1 (n:Int):az (vN n)=cu n (-1000000000000000) 1000000000000000:=by
 unfold az vN
 simp
def rI (b:Bool) (n:Nat):Int:=if b=true then -(n:Int) else n
theorem PD {b:Bool} {n:Nat}:az (vN (rI b n))=decide (n≤1000000000000000):=by
 rw[Y1]
 unfold rI cu
 rw[bw_,ai_,ai_]
 cases b <;> simp <;> omega
theorem W0 {d:aj} {b:Bool}:((dr (ba d) 16).bind fun z4=>(if b=true then(if z4.1.2.1=true then((eE (1,(he_ hf_ (0 - z4.1.1)),(⟨#[]⟩:aa_),())).bind fun z5=>(some (((1,(he_ hf_ (0 - z4.1.1)),(⟨#[]⟩:aa_),()),z5.1.1,()),(())))) else(some (((1,(he_ hf_ (0 - z4.1.1)),(⟨#[]⟩:aa_),()),false,()),(())))) else(if z4.1.2.1=true then((eE (1,z4.1.1,(⟨#[]⟩:aa_),())).bind fun z6=>(some (((1,z4.1.1,(⟨#[]⟩:aa_),()),z6.1.1,()),(())))) else(some (((1,z4.1.1,(⟨#[]⟩:aa_),()),false,()),(()))))))
  = (some ((vN (rI b (if c8 d 16=true then bS 0 d else 0)),(c8 d 16 && decide (bS 0 d≤1000000000000000)),()),()):Option ((ac×Bool×Unit)×Unit)):=by
 have e:=Dn d (m:=16) (by decide)
 have e:dr (ba d) 16=_:=e
 rw[e]
 simp only[ab_]
 cases hr:c8 d 16 with
 | false=>cases b <;> rfl
 | true =>
  have hlt:=acx hr
  simp only[ba_,bt_]
  cases b with
  | true =>
   simp only[ba_]
   rw[wr (by omega) (by omega)]
   have ev:((1,0 - ((bS 0 d:Nat):Int),(⟨#[]⟩:aa_),()):ac)=vN (rI true (bS 0 d)):=by
    unfold vN rI
    rw[ae_ rfl,show(0:Int) - ((bS 0 d:Nat):Int) = -((bS 0 d:Nat):Int) by omega]
   rw[ev,fA (by show eS.size≤_; decide),PD]
   rfl
  | false =>
   simp only[ak_,av_]
   have ev:((1,((bS 0 d:Nat):Int),(⟨#[]⟩:aa_),()):ac)=vN (rI false (bS 0 d)):=rfl
   rw[ev,fA (by show eS.size≤_; decide),PD]
   rfl
theorem UQ {b:Bool} : ∀(d:aj),d≠[]→d.length≤9223372036854775807 → ∃ v:ac,kH (ba d) b 0 0 (⟨#[]⟩:aa_)=some ((v,js d,()),())∧(js d=true→v=vN (rI b (bS 0 d)))
 | [],h,_=>bh_ rfl h
 | c :: l,h,hl=>by
  have fC:(c :: l:aj).length=1∨(c :: l:aj).head? ≠ some 48 → ∃ v:ac,(some ((vN (rI b (if c8 (c :: l) 16=true then bS 0 (c :: l) else 0)),(c8 (c :: l) 16 && decide (bS 0 (c :: l)≤1000000000000000)),()),()):Option ((ac×Bool×Unit)×Unit))=some ((v,js (c :: l),()),())∧(js (c :: l)=true→v=vN (rI b (bS 0 (c :: l)))):=by
   intro hc
   rw[WZ h hc]
   refine⟨_,rfl,fun ho => ?_⟩
   rw[←WZ h hc,ag_] at ho
   rw[ae_ ho.1]
  rw[HP,aK]
  by_cases h1:1 < (c :: l:aj).length
  ·rw[aJ (by omega),qA,F6 c 48 (n:=48) rfl]
   by_cases h48:c=48
   ·subst h48
    rw[aJ rfl,show(1:Int)=((1:Nat):Int) from rfl,ge (by simp)]
    simp only[bu_,cu_]
    have hne:l≠[]:=by
     rintro rfl
     simp at h1
    have hll:l.length≤9223372036854775807:=by rw[aj_] at hl; omega
    obtain⟨v,e1,e2⟩:=UQ (b:=b) l hne hll
    have eo:js (48 :: l)=js l:=by
     unfold js
     rfl
    rw[eo]
    exact⟨v,e1,e2⟩
   ·rw[aE h48,W0]
    exact fC (.inr (by simpa using h48))
  ·rw[aE (by omega),W0]
   exact fC (.inl (by simp only[aj_] at h1 ⊢; omega))
def PE (w:aj):Bool:=decide (w.head? = some 45)
def iH (w:aj):aj:=if w.head? = some 45 then w.drop 1 else w
def fw (w:aj):Bool:=decide (iH w≠[]) && js (iH w)
def lp (w:aj):Int:=rI (PE w) (bS 0 (iH w))
theorem Dt {w:aj} (hw:w≠[]) (hl:w.length≤9223372036854775807) : ∃ v:ac,CG (ba w)=some ((v,fw w,()),())∧(fw w=true→v=vN (lp w)):=by
 cases w with
 | nil=>exact bh_ rfl hw
 | cons c l =>
  rw[Oi,aK,aJ (by simp),qA,F6 c 45 (n:=45) rfl]
  by_cases hc:c=45
  ·subst hc
   have hm:iH (45 :: l)=l:=rfl
   have hg:PE (45 :: l)=true:=rfl
   have e0:(ah_ (ba l) == ah_ (⟨#[]⟩:aa_))=decide (l=[]):=dK (b:=[])
   rw[aJ rfl,show(1:Int)=((1:Nat):Int) from rfl,ge (by simp)]
   simp only[bu_,cu_]
   rw[e0]
   unfold fw lp
   rw[hm,hg]
   by_cases hn:l=[]
   ·rw[aJ hn]
    subst hn
    exact⟨_,rfl,fun h=>by cases h⟩
   ·rw[aE hn]
    obtain⟨v,e1,e2⟩:=UQ (b:=true) l hn (by rw[aj_] at hl; omega)
    refine⟨v,?_,fun h => ?_⟩
    ·simpa[hn] using e1
    ·rw[ag_] at h
     exact e2 h.2
  ·have hm:iH (c :: l)=c :: l:=ac_ (by simpa using hc)
   have hg:PE (c :: l)=false:=bf_ (by simpa using hc)
   have e0:(ah_ (ba (c :: l)) == ah_ (⟨#[]⟩:aa_))=decide (c :: l=[]):=dK (b:=[])
   rw[aE hc,e0,aE (by simp)]
   unfold fw lp
   rw[hm,hg]
   obtain⟨v,e1,e2⟩:=UQ (b:=false) (c :: l) (by simp) hl
   refine⟨v,?_,fun h => ?_⟩
   ·simpa[hc] using e1
   ·rw[ag_] at h
    exact e2 h.2
theorem abS:(fun c=>([48,49,50,51,52,53,54,55,56,57]:aj).contains c)=dw:=funext fun c=>qB (p:=fun c=>([48,49,50,51,52,53,54,55,56,57]:aj).contains c=dw c) (by decide +kernel) c
theorem Iu {p:UInt8→Bool} : ∀ {l:aj} {x:UInt8} {t:aj},l.dropWhile p=x :: t→p x=false
 | c :: l,x,t,h=>by
  cases hc:p c with
  | true =>
   rw[fq_ hc] at h
   exact Iu h
  | false =>
   rw[bj_ (by rw[hc]; decide)] at h
   cases h
   exact hc
theorem xc {p:UInt8→Bool} : ∀ {l:aj},l.dropWhile p=[]↔l.all p=true
 | []=>by simp
 | c :: l=>by
  cases hc:p c with
  | true=>rw[fq_ hc,xc]; simp[hc]
  | false=>rw[bj_ (by rw[hc]; decide)]; simp[hc]
theorem Y2 (d:aj):(Lib.trimS d [48,49,50,51,52,53,54,55,56,57]=[])↔d.all dw=true:=by
 unfold Lib.trimS Lib.trimLeftS Lib.trimRightS
 rw[abS,xc]
 constructor
 ·intro h
  cases hr:d.reverse.dropWhile dw with
  | nil =>
   rw[xc] at hr
   simpa using hr
  | cons x t =>
   have hx:=Iu hr
   rw[hr] at h
   simp only[List.all_reverse,cb_,ag_] at h
   rw[hx] at h
   cases h.1
 ·intro h
  have:d.reverse.dropWhile dw=[]:=xc.2 (by simpa using h)
  rw[this]
  rfl
theorem PF {w:aj} (hl:w.length≤1000000):CI (ba w)=some (((decide (iH w≠[]) && (iH w).all dw),()),()):=by
 have hp:mv (ba w) (⟨#[45]⟩:aa_)=some ((ba (iH w),()),()):=by
  rw[yQ,tY,show(⟨#[45]⟩:aa_)=ba [45] from rfl,xJ _ _ (by omega)]
  simp only[ab_,F4]
  unfold iH
  by_cases h:w.head? = some 45
  ·obtain⟨t,rfl⟩:=iE h
   rw[aJ h,ae_ h,aK,ge (by simp)]
   rfl
  ·rw[aE h,ac_ h]
   rfl
 rw[Ol,hp]
 simp only[ab_]
 have e0 : ∀ x:aj,(ah_ (ba x) == ah_ (⟨#[]⟩:aa_))=decide (x=[]):=fun x=>dK (b:=[])
 have hm:(iH w).length≤w.length:=by
  unfold iH
  split <;> simp
 rw[e0]
 by_cases hn:iH w=[]
 ·simp[hn]
 ·have ht:vc (ba (iH w)) (⟨#[48,49,50,51,52,53,54,55,56,57]⟩:aa_)=some ((ba (Lib.trimS (iH w) [48,49,50,51,52,53,54,55,56,57]),()),()):=by
   rw[HH]
   show(if uS (ba [48,49,50,51,52,53,54,55,56,57])=true∧(ba (iH w)).size≤9223372036854775807 then some (((⟨(Lib.trimS (lb (ba (iH w))) (lb (ba [48,49,50,51,52,53,54,55,56,57]))).toArray⟩:aa_),()),()) else none)=_
   rw[ae_ ⟨by decide +kernel,by rw[aK]; omega⟩,dl,dl]
  rw[ht]
  simp only[ab_,hn,cy_,bm_,ba_,e0,ne_eq,not_false_eq_true,ck_,bt_]
  congr 3
  rw[bw_,ai_]
  exact Y2 _
theorem PG : ∀(l:aj) (a u:Nat),l.all dw=true→fj_ 18446744073709551615 a l = .ok u→u=bS a l
 | [],a,u,_,h=>by
  cases h
  rfl
 | c :: l,a,u,h,hp=>by
  simp only[cb_,ag_] at h
  have hd:48≤c.toNat∧c.toNat≤57:=by simpa[dw] using h.1
  unfold fj_ at hp
  rw[ae_ hd] at hp
  split at hp
  ·cases hp
  ·split at hp
   ·cases hp
   ·exact PG l _ u h.2 hp
theorem LB {w:aj} (hne:iH w≠[]) (hd:(iH w).all dw=true) (h:(cD w).2=true):(cD w).1=lp w:=by
 unfold cD at h ⊢
 cases hp:ef_ 64 w with
 | range=>rw[hp] at h; cases h
 | ok v =>
  simp only
  cases w with
  | nil=>exact bh_ rfl hne
  | cons c l =>
   unfold ef_ at hp
   simp only at hp
   unfold lp
   by_cases hc:c=45
   ·subst hc
    have hm:iH (45 :: l)=l:=rfl
    have hg:PE (45 :: l)=true:=rfl
    rw[hm] at hne hd
    have h45:(45:UInt8).toNat=45:=rfl
    rw[ae_ (.inr h45)] at hp
    unfold gn_ at hp
    rw[ac_ hne] at hp
    cases hu:fj_ (2 ^ 64 - 1) 0 l with
    | range=>rw[hu] at hp; cases hp
    | ok u =>
     rw[hu] at hp
     have:=PG l 0 u hd hu
     simp only at hp
     split at hp
     ·cases hp
     ·split at hp
      ·cases hp
      ·cases hp
       rw[hm,hg,this]
       rfl
    | _=>rw[hu] at hp; cases hp
   ·have hm:iH (c :: l)=c :: l:=ac_ (by simpa using hc)
    have hg:PE (c :: l)=false:=bf_ (by simpa using hc)
    rw[hm] at hd
    have hcd:48≤c.toNat∧c.toNat≤57:=by
     simp only[cb_,ag_] at hd
     simpa[dw] using hd.1
    rw[ac_ (by omega)] at hp
    unfold gn_ at hp
    rw[ac_ (by simp)] at hp
    cases hu:fj_ (2 ^ 64 - 1) 0 (c :: l) with
    | range=>rw[hu] at hp; cases hp
    | ok u =>
     rw[hu] at hp
     have:=PG (c :: l) 0 u hd hu
     simp only at hp
     split at hp
     ·cases hp
     ·split at hp
      ·cases hp
      ·rw[ac_ (by omega)] at hp
       cases hp
       rw[hm,hg,this]
       rfl
    | _=>rw[hu] at hp; cases hp
 | _=>rw[hp] at h; cases h
theorem Q8 {w:aj} (h:fw w=true):cD w=(lp w,true):=by
 unfold fw js at h
 simp only[ag_,ai_] at h
 obtain⟨hne,hd,hv⟩:=h
 have hp2:(cD w).2=true:=by
  cases w with
  | nil=>exact bh_ rfl hne
  | cons c l =>
   by_cases hc:c=45
   ·subst hc
    have hm:iH (45 :: l)=l:=rfl
    rw[hm] at hne hd hv
    have h45:(45:UInt8).toNat=45:=rfl
    have hu:fj_ (2 ^ 64 - 1) 0 l = .ok (bS 0 l):=ML l 0 hd (by omega)
    have:ef_ 64 (45 :: l) = .ok (-((bS 0 l:Nat):Int)):=by
     unfold ef_
     simp only
     rw[ae_ (.inr h45)]
     unfold gn_
     rw[ac_ hne,hu]
     simp only
     rw[ac_ (by omega),ac_ (by omega)]
     rfl
    unfold cD
    rw[this]
   ·have hm:iH (c :: l)=c :: l:=ac_ (by simpa using hc)
    rw[hm] at hd hv
    have hcd:48≤c.toNat∧c.toNat≤57:=by
     have hd':=hd
     simp only[cb_,ag_] at hd'
     simpa[dw] using hd'.1
    have hu:fj_ (2 ^ 64 - 1) 0 (c :: l) = .ok (bS 0 (c :: l)):=ML (c :: l) 0 hd (by omega)
    have:ef_ 64 (c :: l) = .ok ((bS 0 (c :: l):Nat):Int):=by
     unfold ef_
     simp only
     rw[ac_ (by omega)]
     unfold gn_
     rw[ac_ (by simp),hu]
     simp only
     rw[ac_ (by omega),ac_ (by omega),ac_ (by omega)]
    unfold cD
    rw[this]
 exact Prod.ext (LB hne hd hp2) hp2
theorem abT {w:aj} (h:fw w=false) (h1:(cD w).2=true) (h2:(decide (iH w≠[]) && (iH w).all dw)=true):az (vN (cD w).1)=false:=by
 simp only[ag_,ai_] at h2
 rw[LB h2.1 h2.2 h1]
 unfold lp
 rw[PD]
 unfold fw js at h
 rw[bb_ h2.1,h2.2] at h
 simpa using h
theorem A2 {w:aj} (h:fw w=true) : -1000000000000000≤lp w∧lp w≤1000000000000000:=by
 unfold fw js at h
 simp only[ag_,ai_] at h
 unfold lp rI
 split <;> omega
theorem A3 {x:aa_} (hx:x.size≤9223372036854775807) : ∃(t:aj) (b:Bool),vd x=some ((ba t,b,()),())∧d7 x=some ((ba t,b,()),())∧t.length≤200:=by
 obtain⟨w,rfl⟩ : ∃ s,x=ba s:=⟨lb x,(dM x).symm⟩
 rw[QN,xF,om hx,t6 hx]
 simp only[ab_]
 have e0 : ∀ x:aj,(ah_ (ba x) == ah_ (⟨#[]⟩:aa_))=decide (x=[]):=fun x=>dK (b:=[])
 rw[e0]
 cases hp:(plain (ba w) && decide (((ba w).size:Int)≤200)) with
 | false =>
  have hw:w≠[]:=by
   rintro rfl
   exact bh_ hp (by decide)
  rw[bf_ hw]
  exact⟨[],false,rfl,rfl,by simp⟩
 | true =>
  have hp':=hp
  rw[ag_,ai_,aK] at hp'
  have hl:w.length≤200:=by omega
  simp only[bc_,ak_,av_]
  by_cases hw:w=[]
  ·subst hw
   exact⟨[],true,rfl,rfl,by simp⟩
  ·rw[aE hw,aE hw]
   have hcut:cH (ba w) (⟨#[61]⟩:aa_)=_:=sZ w [61] (by omega)
   rw[hcut]
   simp only[ab_,F4]
   cases w with
   | nil=>exact bh_ rfl hw
   | cons c l =>
    rw[qA,F6 c 61 (n:=61) rfl]
    by_cases hc:c=61
    ·subst hc
     have hll:l.length≤200:=by rw[aj_] at hl; omega
     simp only[dg_,ck_,ba_,ad_,bu_,cu_]
     rw[show(1:Int)=((1:Nat):Int) from rfl,ge (by simp)]
     simp only[bu_,cu_]
     obtain⟨f,b,r1,r2,r3,r4⟩:=MM (x:=ba l) (by rw[aK]; omega)
     rw[r1,r2]
     simp only[ab_]
     have hsm:f.length≤10000000∧(∀ x∈f,x.2.2.1.2.2.1.size≤9223372036854775807) ∧ ∀ x∈f,x.2.2.2.2.2.1.length≤10000000:=by
      cases b with
      | false=>rw[r4 rfl]; simp
      | true =>
       have ho:=r3 rfl
       have hs:dN f=true:=by
        unfold dN
        rw[cl_]
        intro y hy
        obtain⟨i,hi⟩:=gv_ hy
        exact(jT ho i y hi).1
       have ho':=ho
       unfold ef at ho'
       rw[ag_] at ho'
       have:=bm.1 ho'.1
       exact⟨by omega,JN (vR hs),JO (vR hs)⟩
     obtain⟨t,t1,t2,t3⟩:=JQ hsm.1 hsm.2.1 hsm.2.2
     rw[t2,Oj,t1]
     simp only[ab_]
     rw[show(⟨#[61]⟩:aa_)=ba [61] from rfl,bT (by simp only[ad_]; omega),e0,aK]
     cases b with
     | false =>
      simp only[bm_,ba_]
      refine⟨[],false,?_,rfl,by simp⟩
      by_cases ht:t=[] <;> simp[ht]
     | true =>
      simp only[bc_,ak_,av_]
      by_cases ht:t=[]
      ·refine⟨[],false,?_,?_,by simp⟩ <;> simp[ht]
      ·rw[wr (by omega) (by omega)]
       by_cases h2:t.length < 200
       ·refine⟨61 :: t,true,?_,?_,by rw[aj_]; omega⟩
        ·rw[bf_ ht,bb_ (show(t.length:Int) < 200 by omega)]
         rfl
        ·rw[aE ht,aE (by omega),bT (by simp only[ad_]; omega)]
         rfl
       ·refine⟨[],false,?_,?_,by simp⟩
        ·rw[bf_ ht,bf_ (show ¬(t.length:Int) < 200 by omega)]
         rfl
        ·rw[aE ht,aJ (by omega)]
    ·have hnc : ¬(some c=some (61:UInt8)):=by simpa using hc
     simp only[dg_,hnc,cy_,ak_,av_,hc]
     generalize hwd:(c :: l:aj)=w at *
     have hsz:(ba w).size=w.length:=aK w
     rw[xL (by omega)]
     obtain⟨v,n1,n2⟩:=Dt hw (by omega)
     rw[n1,PF (by omega),oK (by omega),oJ (by omega)]
     simp only[ab_,iv]
     rw[fB (by show eS.size≤_; decide)]
     simp only[ab_]
     have tail : ∃(t:aj) (b:Bool),(if(bo w).2=true then(some ((ba w,true,()),(())):Option ((aa_×Bool×Unit)×Unit)) else(if((ay_ (ba w):Int) == 200)=true then(some (((⟨#[]⟩:aa_),false,()),(()))) else(cats (⟨#[39]⟩:aa_) (ba w) fun y2=>(some ((y2,true,()),(()))))))=some ((ba t,b,()),())
       ∧ (if(!(bo w).2)=true then((et (2,0,ba w,())).bind fun z7=>(if(decide ((ay_ z7.1.1:Int) > 200))=true then(some (((⟨#[]⟩:aa_),false,()),(()))) else(some ((z7.1.1,true,()),(()))))) else((et (bo w).1).bind fun z8=>(if(decide ((ay_ z8.1.1:Int) > 200))=true then(some (((⟨#[]⟩:aa_),false,()),(()))) else(some ((z8.1.1,true,()),(()))))))=some ((ba t,b,()),())∧t.length≤200:=by
      cases hr:(bo w).2 with
      | true =>
       obtain⟨k1,k2⟩:=pd hr
       refine⟨w,true,rfl,?_,hl⟩
       simp only[bc_,ak_,av_]
       rw[eY (cg k1),ae_ k1,k2]
       simp only[ab_]
       rw[aE (by rw[hsz]; omega)]
      | false =>
       simp only[bm_,ak_,av_,ba_]
       have hov:az (2,0,ba w,())=true:=by
        unfold az
        rw[ae_ rfl]
        simp only[ck_,bt_]
        exact hp
       have htx:bG (2,0,ba w,())=ba (39 :: w):=by
        show(⟨#[39]⟩:aa_)++ba w=_
        rw[show(⟨#[39]⟩:aa_)=ba [39] from rfl,kN]
        rfl
       rw[eY (cg hov),ae_ hov,htx,Un (by omega),show(⟨#[39]⟩:aa_)=ba [39] from rfl,kN]
       simp only[ab_,aK,aj_]
       by_cases h2:w.length=200
       ·rw[ae_ (by simp[h2]),aJ (by omega)]
        exact⟨[],false,rfl,rfl,by simp⟩
       ·rw[ac_ (by simp only[beq_iff_eq]; omega),aE (by omega)]
        exact⟨39 :: w,true,rfl,rfl,by rw[aj_]; omega⟩
     cases ho:fw w with
     | true =>
      have hpv:=Q8 ho
      have hrg:=A2 ho
      have hdg:(decide (iH w≠[]) && (iH w).all dw)=true:=by
       unfold fw js at ho
       simp only[ag_] at ho ⊢
       exact⟨ho.1,ho.2.1⟩
      have hok:az (vN (lp w))=true:=by
       rw[Y1]
       exact bm.2 hrg
      have hit:=qy (n:=lp w) (by omega) (by omega)
      rw[n2 ho,hpv,hdg]
      simp only[ba_,hok]
      rw[xI (by omega) (by omega),eY (cg hok),ae_ hok]
      refine⟨lb (di (lp w)),true,?_,?_,by rw[iR]; omega⟩
      ·rw[dM]; rfl
      ·rw[dM]; rfl
     | false =>
      obtain⟨t,b,s1,s2,s3⟩:=tail
      refine⟨t,b,?_,?_,s3⟩
      ·cases h1:(cD w).2 with
       | false=>simpa using s1
       | true =>
        cases h2:(decide (iH w≠[]) && (iH w).all dw) with
        | false=>simpa using s1
        | true =>
         rw[abT ho h1 h2]
         simpa using s1
      ·simpa using s2
end Go.Proofs.YthbkdfcmjmmpgaaGreatDoor.Abs
