/- Plain laws: both readers side by side: what is not two things with an operation between. -/
import Derived.Test.YthbkdfcmjmmpgaaGreatDoorZM7
import Derived.Lib.SplitLaws
import Derived.Test.YthbkdfcmjmmpgaaGreatDoorZM6
set_option linter.unusedVariables false
set_option linter.unusedSimpArgs false
set_option linter.unusedSectionVars false
open Bool renaming and_eq_true→ah_,and_false→gj_,and_true→fd_,eq_iff_iff→bw_,false_eq_true→aj_,false_or→ct_,not_false→bm_,not_true→bc_,true_and→bv_
open ByteArray renaming size→ay_,toList→ag_
open Go.IntKind renaming i64→hb_,wrap→ha_
open Go.Lib renaming parseIntB→dz_,parseUintB→gl_,parseUintM→fg_
open Int renaming le_refl→cj_,tmod_lt_of_pos→gw_
open List renaming all_append→ee_,all_cons→do_,all_eq_true→ck_,any_eq_true→eo_,append_nil→bx_,cons_append→eg_,dropWhile_cons_of_neg→dg_,dropWhile_cons_of_pos→fp_,drop_succ_cons→bz_,drop_zero→cu_,getD_eq_getElem?_getD→ao_,getElem?_eq_getElem→as_,getElem?_eq_none→cd_,getElem_mem→dq_,head?_cons→db_,length_append→ae_,length_cons→ak_,length_map→bp_,length_nil→bi_,length_pos_iff→ew_,length_singleton→ac_,length→al_,map_append→ga_,map_cons→cs_,map_map→fk_,mem_cons_of_mem→ar_,mem_cons_self→eq_,mem_cons→bb_,nil_append→da_
open Nat renaming le_trans→bn_,pow_le_pow_right→fr_
open Option renaming bind_some→ab_
open Option.some renaming injEq→bg_
open Prod.mk renaming injEq→fm_
open _root_ renaming ByteArray→aa_,absurd→bk_,decide_eq_false→be_,decide_eq_true_eq→ai_,decide_eq_true→bd_,decide_false→cr_,decide_true→ch_,if_false→aw_,if_neg→ad_,if_pos→af_,if_true→ba_
namespace Go.Proofs.YthbkdfcmjmmpgaaGreatDoor.Abs
open Go
theorem KO {p:UInt8→Bool} {c:UInt8} : ∀ {l:ap},c∈l.takeWhile p→p c=true
 | [],h=>by simp at h
 | x :: l,h=>by
  cases hx:p x with
  | true =>
   rw[List.takeWhile_cons_of_pos hx] at h
   rcases bb_.1 h with rfl | h
   ·exact hx
   ·exact KO h
  | false =>
   rw[List.takeWhile_cons_of_neg (by rw[hx]; decide)] at h
   cases h
theorem X7 {w:ap} (hw : ∀ c∈w,br c=true) (h:(bJ w).2=true):(w≠[])↔((bJ w).1.1=1∨(bJ w).1.1=3):=by
 constructor
 ·intro hne
  obtain⟨k1,k2⟩:=oT h
  rcases xw k1 with e | ⟨n,e,_⟩ | ⟨t,e⟩ | ⟨b,e⟩ | ⟨n,e,h0⟩
  ·rw[e] at k2
   exact bk_ (Hq (b:=[]) k2.symm) hne
  ·rw[e]; exact .inl rfl
  ·rw[e] at k2
   exfalso
   have e2:w=39 :: lb t:=by
    have:ba w=ba (39 :: lb t):=by
     rw[←k2]
     show(⟨#[39]⟩:aa_)++t=_
     rw[←ec t,show(⟨#[39]⟩:aa_)=ba [39] from rfl,lu,dy]
     rfl
    exact Hq this
   exact bk_ (hw 39 (by rw[e2]; simp)) (by decide)
  ·rw[e]; exact .inr rfl
  ·rw[e] at k2
   exfalso
   have f : ∀ n:Fin 6,1≤n.val→df (n.val:Int)=ba (35 :: pA (n.val:Int)):=by decide +kernel
   have e2:w=35 :: pA (n.val:Int):=by
    have:ba w=ba (35 :: pA (n.val:Int)):=by
     rw[←k2]
     exact f n h0
    exact Hq this
   exact bk_ (hw 35 (by rw[e2]; simp)) (by decide)
 ·rintro hk rfl
  have:(bJ []).1.1=0:=rfl
  omega
theorem Y3 {s:aa_} {a:Int} {ns:List ab}:eY 5 s a false ns=wb s a false ns:=by
 rw[Cu]
 simp only[aj_,aw_,g8]
 rfl
abbrev X8 (k:Int):ab:=(4,0,(0,0,(⟨#[]⟩:aa_),()),((0,0,()),false,false,()),((0,0,()),false,false,()),([k]:(List Int)),())
theorem V6:ay_ ⟨#[]⟩≤9223372036854775807:=by decide
theorem rs {s m:ap} {L i j:Int} {l1 l2:ap} {b:Bool} {ns1 ns2:List ab} (hd:Dm b ns1) (h1:l1 <:+ m) (h2:ns1.length≤60) (h3:l2 <:+ s) (h4:ns2.length≤61+m.length):n9 s m L (some ((i,()),((ba l1,ns1,b,()),()))) (some ((j,()),((ba s,at' s l2,true,ns2,()),()))) :=
 .inr ⟨i,l1,b,ns1,j,l2,ns2,rfl,hd,h1,h2,rfl,h3,h4⟩
theorem X9 {s:ap} (hs:s.length≤200) {n:Nat} (HB:V5 s n) {m:ap} (hbm:bl m=m) (hms:m <:+ s) (hmn:m.length≤n) {deep:Int} {ns:List ab} (hd0:0≤deep) (hd:deep+(m.length:Int)≤200) (ho:dz ns=true) (hn:ns.length≤60) :
  n9 s m 5 (i8 deep (m.takeWhile br) (m.dropWhile br) false ns) ((mW (ba s) (at' s m) false ns).bind fun z10=>(fE z10.1.1 1 z10.2.1.1 z10.2.1.2.1 z10.2.1.2.2.1 z10.2.1.2.2.2.1)):=by
 have hml:=aR hms
 have hwl:=mB br m
 have hrm:m.dropWhile br <:+ m:=List.dropWhile_suffix _
 have hrs:=an hrm hms
 have hrl:=aR hrm
 rw[FC (by omega) hms]
 simp only[ab_]
 obtain⟨l',hl',e⟩:=Ox (w:=m.takeWhile br) (s:=s) (ns:=ns) (by omega) (by omega) n8 [] (m.dropWhile br) rfl hrs
 have e:fE (ba (m.takeWhile br)) 1 (ba s) (at' s (m.dropWhile br)) false ns=_:=e
 rw[e]
 have hl's:l' <:+ m:=by
  rcases hl' with rfl | rfl
  ·exact hrm
  ·exact an (aH _) hrm
 have hlb:bl l'=bl (m.dropWhile br):=by
  rcases hl' with rfl | rfl
  ·rfl
  ·exact dP _
 cases hf:n8.find? (fun k=>decide (gD k=m.takeWhile br)) with
 | some k =>
  obtain⟨k',hk',hkw,hkm,hne⟩:=Ry (w:=m.takeWhile br) (by rw[hf]; simp)
  rw[hf] at hk'
  cases hk'
  have hno : ∀ k∈n8,(bJ (gD k)).2=false∧(cS (gD k)).2=false:=by decide +kernel
  obtain⟨v1,v2⟩:=hno k hkm
  rw[hkw] at v1 v2
  have hlt:=Rz (l:=m) (by rw[hbm]; exact hne)
  rw[hbm] at hlt
  have ei:i8 deep (m.takeWhile br) (m.dropWhile br) false ns=iO k deep (ba (m.dropWhile br)) false ns:=by
   unfold i8
   rw[ad_ (by rw[v1]; simp),ad_ (by rw[v2]; simp),hf]
  rw[ei,wn,ad_ (by decide),show(⟨#[40]⟩:aa_)=ba [40] from rfl,et (by omega)]
  simp only[ab_,n7 (c:=40) (.inr (.inl rfl)),kY,ac_]
  by_cases h40:(bl (m.dropWhile br)).head? = some 40
  ·simp only[h40,ch_,fd_,hf,ba_,bc_]
   have hdl:=oW h40
   have hds:(bl (m.dropWhile br)).drop 1 <:+ m:=an (iv _) hrm
   have hb2:=aR (aH ((bl (m.dropWhile br)).drop 1))
   rw[Lp,T0]
   exact(X6 hs HB _ _ _ rfl rfl (an hds hms) (an hds hms) (by omega) k deep [] ns hd0 (by omega) (by simp only[bi_]; omega) ho hn).mono (an (aH _) hds)
  ·simp only[h40,cr_,gj_,aw_,bm_]
   have e0:n8.find? (fun _=>false)=none:=rfl
   rw[e0]
   simp only
   have es:rp (m.takeWhile br) s (at' s l') false ns=some ((0,()),((ba s,at' s l',true,ns,()),())):=by
    unfold rp
    rw[ad_ (by rw[v1]; simp),ad_ (by rw[v2]; simp)]
   rw[es,lL]
   simp only[bc_,aj_,aw_,jG]
   exact jT (fe hn (HH (by simp))) (HI ho) (an (aH _) hrm) rfl (an hl's hms) (by omega)
 | none =>
  have e0:n8.find? (fun k=>decide (gD k=m.takeWhile br) && ([40]:ap).isPrefixOf (bl (m.dropWhile br)))=none:=by
   rw[List.find?_eq_none] at hf ⊢
   intro k hk
   have:=hf k hk
   simp only[ai_] at this
   simp[this]
  rw[e0]
  simp only
  unfold rp i8
  rw[hf]
  have hv:=fun h=>X7 (w:=m.takeWhile br) (fun c hc=>KO hc) h
  by_cases hc:(bJ (m.takeWhile br)).2=true∧m.takeWhile br≠[]
  ·rw[af_ hc,af_ ⟨hc.1,(hv hc.1).1 hc.2⟩,pB]
   exact rq (Rx (bn_ (dE (oT hc.1).1) (by decide))) hlb.symm hrm hl's hms ho hn
  ·rw[ad_ hc,ad_ (fun h=>hc ⟨h.1,(hv h.1).2 h.2⟩)]
   by_cases hp:(cS (m.takeWhile br)).2=true
   ·rw[af_ hp,af_ hp]
    exact rq rfl hlb.symm hrm hl's hms ho hn
   ·rw[ad_ hp,ad_ hp]
    exact rs (HI ho) hrm hn (an hl's hms) (by omega)
theorem V7 {s:ap} (hs:s.length≤200) {n:Nat} (HB:V5 s n) : ∀(k:Nat) (l l0:ap),(bl l).length=k→bl l=bl l0→l <:+ s→l0 <:+ s→(bl l).length≤n → ∀(deep:Int) (ns:List ab),0≤deep→deep+((bl l).length:Int)≤200→dz ns=true→ns.length≤60 →
  n9 s (bl l) 5 (ld deep (ba l) false ns) (wb (ba s) (at' s l0) false ns):=by
 intro k
 induction k using Nat.strongRecOn with
 | ind k ih =>
  intro l l0 hk hb hs1 hs2 hln deep ns hd0 hd ho hn
  subst hk
  have hl1:=aR hs1
  have hm1:=aR (aH l)
  have hms:bl l <:+ s:=an (aH l) hs1
  rw[u6,aD (by omega),Ns,show(⟨#[45]⟩:aa_)=ba [45] from rfl,show(⟨#[40]⟩:aa_)=ba [40] from rfl,show(⟨#[34]⟩:aa_)=ba [34] from rfl,show(⟨#[35]⟩:aa_)=ba [35] from rfl,show(⟨#[41]⟩:aa_)=ba [41] from rfl,et (by omega),i7 (by omega) (by decide) hs2]
  simp only[ab_,aj_,aw_,jG,g8,n7 (c:=45) (.inl rfl),ac_,bm_,bv_,kY,←hb]
  by_cases h45:(bl l).head? = some 45
  ·simp only[h45,ch_,ba_]
   have hlt:=oW h45
   have hX:(bl l).drop 1 <:+ bl l:=gb 1 _
   have hbX:=aR (aH ((bl l).drop 1))
   have hlX:((bl l).drop 1).length < (bl l).length:=by
    obtain⟨t,ht⟩:=kH h45
    rw[ht]
    simp
   rw[wr (by omega) (by omega),Y3]
   refine rr (ih _ (by omega) _ _ rfl rfl (an hX hms) (an hX hms) (by omega) (deep+1) ns (by omega) (by omega) ho hn) ?_ ?_
   ·intro i x1 x2 ns' e1 e2 e3 e4 e5 _
    exact rq (x:=X8 i) rfl e1 (an e2 (an (aH _) hX)) (an e3 (an (aH _) hX)) hms e4 e5
   ·intro i x1 b1 ns1 j x2 ns2 e1 e2 e3 e4 e5
    refine jT (fe e3) e1 (an e2 (an (aH _) hX)) (OD (x:=X8 j) (ns:=ns2) (by omega) V6) e4 ?_
    show(ns2++[X8 j]).length≤_
    rw[ae_,ac_]
    omega
  ·simp only[h45,cr_,aj_,aw_]
   rw[Oy (by omega),i7 (by omega) (by decide) hms]
   simp only[ab_,dP,bm_,bv_,kY,ac_]
   by_cases h40:(bl l).head? = some 40
   ·have n34 : ¬(bl l).head? = some 34:=by rw[h40]; decide
    have n35 : ¬(bl l).head? = some 35:=by rw[h40]; decide
    simp only[h40,ch_,ba_]
    rw[ad_ (by decide),ad_ (by decide)]
    have hX:(bl l).drop 1 <:+ bl l:=gb 1 _
    have hbX:=aR (aH ((bl l).drop 1))
    have hlX:((bl l).drop 1).length < (bl l).length:=by
     obtain⟨t,ht⟩:=kH h40
     rw[ht]
     simp
    rw[wr (by omega) (by omega)]
    refine rr (HB _ _ rfl (an hX hms) (an hX hms) (by omega) 1 (deep+1) ns (by decide) (by decide) (by omega) (by omega) ho hn) ?_ ?_
    ·intro i x1 x2 ns' e1 e2 e3 e4 e5 _
     have hx1:x1 <:+ bl l:=an e2 (an (aH _) hX)
     have hx2:x2 <:+ bl l:=an e3 (an (aH _) hX)
     have hlx:=aR hx1
     simp only[aj_,aw_]
     rw[et (by omega),i7 (by omega) (by decide) (an hx2 hms)]
     simp only[ab_,n7 (c:=41) (.inr (.inr (.inl rfl))),ac_,bm_,bv_,kY,←e1]
     by_cases h41:(bl x1).head? = some 41
     ·simp only[h41,ch_,ba_,bc_,aj_,aw_]
      have hd1:(bl x1).drop 1 <:+ bl l:=an (iv x1) hx1
      exact .inl ⟨i,(bl x1).drop 1,(bl x1).drop 1,ns',rfl,rfl,rfl,hd1,hd1,e4,e5,.inr (TZ _)⟩
     ·simp only[h41,cr_,aw_,bm_,aj_,ba_]
      have hd1:bl x1 <:+ bl l:=an (aH x1) hx1
      exact rs (HI e4) hd1 e5 (an hd1 hms) (by omega)
    ·intro i x1 b1 ns1 j x2 ns2 e1 e2 e3 e4 e5
     have hx1:x1 <:+ bl l:=an e2 (an (aH _) hX)
     have hlx:=aR hx1
     rw[i7 (by omega) (by decide) e4]
     simp only[ab_,bc_,Bool.false_and,aj_,aw_,bm_,ba_]
     cases b1 with
     | true =>
      simp only[ba_]
      exact rs ⟨.inl rfl,e1.2⟩ hx1 e3 (an (aH x2) e4) (by omega)
     | false =>
      simp only[aj_,aw_]
      rw[et (by omega)]
      simp only[ab_]
      have hdm:dz ns1=false:=e1.1.elim (fun h=>by cases h) id
      refine rs ⟨.inr hdm,e1.2⟩ ?_ e3 (an (aH x2) e4) (by omega)
      split
      ·exact an (an (gb _ _) (aH _)) hx1
      ·exact an (aH _) hx1
   ·simp only[h40,cr_,aj_,aw_]
    rw[i7 (by omega) (by decide) hms]
    simp only[ab_,dP,bm_,bv_,kY,ac_]
    by_cases h34:(bl l).head? = some 34
    ·simp only[h34,ch_,ba_]
     obtain⟨t,ht⟩:=kH h34
     have htl:t.length+1=(bl l).length:=by rw[ht]; simp
     have hts:t <:+ bl l:=⟨[34],by rw[ht]; rfl⟩
     rw[ht]
     simp only[bz_,cu_]
     rw[HF (by omega),X2 (by omega) (an hts hms)]
     cases hq:qt t with
     | none =>
      rw[←ht]
      exact rs (HI ho) (oV _) hn ⟨s,by simp⟩ (by omega)
     | some p =>
      obtain⟨q1,q2,q3⟩:=VX t p.1 p.2 hq
      show n9 s _ 5 (cc _ _ false ns) (cm _ _ _ false ns)
      rw[pB,←ht]
      have hp:=an q1 hts
      refine rq (x:=nC (2,0,ba ([]++p.1),())) (Rx ?_) rfl hp hp hms ho hn
      show(ba ([]++p.1)).size≤_
      rw[aQ]
      simp only[da_]
      omega
    ·simp only[h34,cr_,aj_,aw_]
     rw[i7 (by omega) (by decide) hms]
     simp only[ab_,dP,bm_,bv_,kY,ac_]
     by_cases h35:(bl l).head? = some 35
     ·simp only[h35,ch_,ba_]
      obtain⟨t,ht⟩:=kH h35
      have htl:t.length+1=(bl l).length:=by rw[ht]; simp
      have hts:t <:+ bl l:=⟨[35],by rw[ht]; rfl⟩
      rw[ht]
      simp only[bz_,cu_]
      have es:=KJ (s:=s) (l:=t) (b:=false) (ns:=ns) (by omega) (an hts hms) zd [] rfl
      have es:jr 1 (ba s) (at' s t) false ns=_:=es
      rw[RA (by omega),es]
      cases zd.find? (ze t) with
      | none =>
       simp only
       rw[←ht]
       exact rs (HI ho) (oV _) hn (an hts hms) (by omega)
      | some e =>
       simp only
       rw[pB,←ht]
       have hp:=an (gb (pA e).length t) hts
       exact rq (x:=nC (vE e)) (Rx (by show eS.size≤_; decide)) rfl hp hp hms ho hn
     ·simp only[h35,cr_,aj_,aw_]
      exact X9 hs HB (dP l) hms hln hd0 hd ho hn
noncomputable def C3:Nat→Int→(Int×Unit)×(lz×Unit)→RS
 | 0,_,z=>some ((z.1.1,()),(z.2.1,()))
 | c+1,L,z=>(du (L+(c:Int)) z.1.1 z.2.1.1 z.2.1.2.1 z.2.1.2.2.1 z.2.1.2.2.2.1).bind (C3 c L)
theorem I8 {L a:Int} {s:aa_} {i:Int} {ns:List ab}:du L a s i true ns=some ((a,()),((s,i,true,ns,()),())):=by
 rw[wq]
 rfl
theorem DL : ∀(c:Nat) (L a:Int) (s:aa_) (i:Int) (ns:List ab),C3 c L ((a,()),((s,i,true,ns,()),()))=some ((a,()),((s,i,true,ns,()),()))
 | 0,_,_,_,_,_=>rfl
 | c+1,L,a,s,i,ns=>by
  show(du _ a s i true ns).bind (C3 c L)=_
  rw[I8]
  exact DL c L a s i ns
theorem OE : ∀(c:Nat) (L:Int) (z:(Int×Unit)×(lz×Unit)),C3 (c+1) L z=(C3 c (L+1) z).bind fun z2=>du L z2.1.1 z2.2.1.1 z2.2.1.2.1 z2.2.1.2.2.1 z2.2.1.2.2.2.1
 | 0,L,z=>by
  show(du (L+((0:Nat):Int)) z.1.1 z.2.1.1 z.2.1.2.1 z.2.1.2.2.1 z.2.1.2.2.2.1).bind (fun z=>some ((z.1.1,()),(z.2.1,())))=du L z.1.1 z.2.1.1 z.2.1.2.1 z.2.1.2.2.1 z.2.1.2.2.2.1
  rw[g8,show L+((0:Nat):Int)=L by omega]
 | c+1,L,z=>by
  show(du (L+((c+1:Nat):Int)) z.1.1 z.2.1.1 z.2.1.2.1 z.2.1.2.2.1 z.2.1.2.2.2.1).bind (C3 (c+1) L)=((du (L+1+(c:Int)) z.1.1 z.2.1.1 z.2.1.2.1 z.2.1.2.2.1 z.2.1.2.2.2.1).bind (C3 c (L+1))).bind _
  rw[show L+((c+1:Nat):Int)=L+1+(c:Int) by omega,Option.bind_assoc]
  congr 1
  funext y
  exact OE c L y
theorem HJ {s:aa_} {a:Int} {ns:List ab} : ∀(c:Nat) (L:Int),L+(c:Int)=5→1≤L→eY L s a false ns=(eY 5 s a false ns).bind (C3 c L)
 | 0,L,h,_=>by
  have:L=5:=by omega
  subst this
  exact g8.symm
 | c+1,L,h,h1=>by
  have hL : ¬(L == 5)=true:=by simp only[beq_iff_eq]; omega
  rw[Cu,ad_ (by decide),ad_ hL,wr (by omega) (by omega),HJ c (L+1) (by omega) (by omega),Option.bind_assoc]
  congr 1
  funext z
  exact(OE c L z).symm
abbrev nB (op a b:Int):ab:=(5,op,(0,0,(⟨#[]⟩:aa_),()),((0,0,()),false,false,()),((0,0,()),false,false,()),([a,b]:(List Int)),())
theorem Ya {s m' l1 l2:ap} {L':Int} {x:ab} {ns:List ab} {K:(Int×Unit)×(q8×Unit)→RI} {K':(Int×Unit)×(lz×Unit)→RS} (hsx:wQ x=true) (ho:dz ns=true) (hn:ns.length≤60)
  (hg:dz (ns++[x])=true→(ns++[x]).length≤60→n9 s m' L' (K (((ns.length:Int),()),((ba l1,ns++[x],false,()),()))) (K' (((ns.length:Int),()),((ba s,at' s l2,false,ns++[x],()),()))))
  (hd : ∀(i:Int) (b1:Bool) (ns1:List ab),Dm b1 ns1→ns1.length≤60→n9 s m' L' (K ((i,()),((ba l1,ns1,b1,()),()))) (K' (((ns.length:Int),()),((ba s,at' s l2,true,ns++[x],()),())))) :
  n9 s m' L' ((bq x (ba l1) false ns).bind K) ((cm x (ba s) (at' s l2) false ns).bind K'):=by
 have hx:=OC hsx
 obtain⟨i,e,hi⟩:=DH (x:=x) (l:=l1) (b:=false) hn
 rw[e,I3 (by omega) hx]
 simp only[ab_]
 by_cases hlt:ns.length < 60
 ·have hi:=hi rfl hlt
  subst hi
  have d60:decide (60≤ns.length)=false:=be_ (by omega)
  simp only[d60,hlt,and_self,ba_,ct_]
  cases hk:dF x with
  | true =>
   refine hg ?_ ?_
   ·unfold dz at ho ⊢
    rw[ee_,ho]
    simp[hk]
   ·rw[ae_,ac_]; omega
  | false =>
   refine hd _ false (ns++[x]) ⟨.inr ?_,RB (vx ho) hsx⟩ ?_
   ·unfold dz
    rw[ee_]
    simp[hk]
   ·rw[ae_,ac_]; omega
 ·have d60:decide (60≤ns.length)=true:=bd_ (by omega)
  rw[d60,ad_ (by omega)]
  simp only[ct_,Bool.true_or]
  exact hd i true ns (HI ho) hn
theorem Yb {s:ap} (hs:s.length≤200) {n:Nat} (HB:V5 s n) : ∀(k c:Nat) (l1 l2 M:ap),(bl l1).length=k→bl l1=bl l2→l1 <:+ M→l2 <:+ M→M <:+ s→(bl l1).length≤n → ∀(L left deep:Int) (ns:List ab),1≤L→L+(c:Int)≤5→0≤deep→deep+((bl l1).length:Int)≤200→dz ns=true→ns.length≤60→(gd (bl l1)=0∨dL (gd (bl l1)) < L+(c:Int)) →
  n9 s M L (fC L deep left (ba l1) false ns) (C3 c L ((left,()),((ba s,at' s l2,false,ns,()),()))):=by
 intro k
 induction k using Nat.strongRecOn with
 | ind k ih =>
  intro c
  induction c with
  | zero =>
   intro l1 l2 M hk hb hs1 hs2 hMs hln L left deep ns hL0 hL1 hd0 hd ho hn hpost
   have hl1:=aR (an hs1 hMs)
   have hbl:=aR (aH l1)
   obtain⟨o1,o2⟩:=sL (bl l1)
   rw[kU]
   simp only[bm_,ba_]
   rw[FB (by omega),I7 o1 o2 (by omega) (fun h=>by rw[dP]; exact Ay h),af_ (by omega)]
   refine .inl ⟨left,bl l1,l2,ns,rfl,rfl,by rw[dP,hb],an (aH l1) hs1,hs2,ho,hn,?_⟩
   rw[dP]
   omega
  | succ c ihc =>
   intro l1 l2 M hk hb hs1 hs2 hMs hln L left deep ns hL0 hL1 hd0 hd ho hn hpost
   have hl1:=aR (an hs1 hMs)
   have hbl:=aR (aH l1)
   have hs2s:=an hs2 hMs
   obtain⟨o1,o2⟩:=sL (bl l1)
   obtain⟨l',hl',eop⟩:=aaY (s:=s) (l:=l2) (ns:=ns) (L:=L+(c:Int)) (by omega) (by omega) hs2s
   have hCh:C3 (c+1) L ((left,()),((ba s,at' s l2,false,ns,()),()))=(du (L+(c:Int)) left (ba s) (at' s l2) false ns).bind (C3 c L):=rfl
   rw[hCh,wq]
   simp only[bm_,ba_]
   rw[eop,←hb]
   by_cases hop:gd (bl l1)≠0∧dL (gd (bl l1))=L+(c:Int)
   ·rw[af_ hop]
    have h0 : ¬(gd (bl l1) == 0)=true:=by simpa using hop.1
    unfold AB
    simp only[ab_]
    rw[ad_ h0,←hb,wr (by omega) (by omega)]
    have hlt:=OB hop.1
    have hX:(bl l1).drop (eJ (gd (bl l1))).length <:+ M:=an (gb _ _) (an (aH l1) hs1)
    have hXM:=aR hX
    have hXl:((bl l1).drop (eJ (gd (bl l1))).length).length < (bl l1).length:=by
     have:=OB (l:=bl l1) (by rw[dP]; exact hop.1)
     rw[dP] at this
     exact this
    have hbX:=aR (aH ((bl l1).drop (eJ (gd (bl l1))).length))
    rw[kU]
    simp only[bm_,ba_]
    rw[FB (by omega),I7 o1 o2 (by omega) (fun h=>by rw[dP]; exact Ay h),ad_ (by omega),dP,hop.2,Option.bind_assoc]
    have hMl:(bl l1).length≤M.length:=aR (an (aH l1) hs1)
    refine rr (HB _ _ rfl (an hX hMs) (an hX hMs) (by omega) (L+(c:Int)+1) deep ns (by omega) (by omega) hd0 (by omega) ho hn) ?_ ?_
    ·intro i x1 x2 ns' e1 e2 e3 e4 e5 e6
     have hx1:x1 <:+ M:=an e2 (an (aH _) hX)
     have hx2:x2 <:+ M:=an e3 (an (aH _) hX)
     have hxl:=aR e2
     have hbx:=aR (aH x1)
     have hxM:=aR hx1
     have hMsl:=aR hMs
     simp only
     rw[Option.bind_assoc]
     refine Ya (x:=nB (gd (bl l1)) left i) rfl e4 e5 ?_ ?_
     ·intro a1 a2
      exact ih _ (by omega) (c+1) x1 x2 M rfl e1 hx1 hx2 hMs (by omega) L _ deep _ hL0 hL1 hd0 (by omega) a1 a2 (by omega)
     ·intro i2 b1 ns1 a1 a2
      simp only
      rw[I8]
      simp only[ab_]
      rw[DL]
      refine jT (AC _ x1 rfl (fun l' _ deep least b ns d0 d1 hn=>DJ l' deep least b ns d0 d1 hn) L deep i2 b1 ns1 hd0 (by omega) a2) a1 hx1 rfl (an hx2 hMs) ?_
      rw[ae_,ac_]
      omega
    ·intro i x1 b1 ns1 j x2 ns2 e1 e2 e3 e4 e5
     have hx1:x1 <:+ M:=an e2 (an (aH _) hX)
     have hxM:=aR hx1
     have hMsl:=aR hMs
     simp only
     rw[OD (x:=nB (gd (bl l1)) left j) (ns:=ns2) (by omega) V6]
     simp only[ab_]
     rw[I8]
     simp only[ab_]
     rw[DL]
     obtain⟨i3,l3,b3,ns3,h3,j1,j2,j3⟩:=(fe (x:=nB (gd (bl l1)) left i) (l:=x1) (b:=b1) e3).dm e1
     rw[h3]
     simp only[ab_]
     have hs3:=aR j1
     refine jT (AC _ l3 rfl (fun l' _ deep least b ns d0 d1 hn=>DJ l' deep least b ns d0 d1 hn) L deep i3 b3 ns3 hd0 (by omega) j3) j2 (an j1 hx1) rfl e4 ?_
     rw[ae_,ac_]
     omega
   ·rw[ad_ hop]
    unfold AB
    simp only[ab_]
    rw[af_ (by rfl)]
    simp only[ab_]
    have hb':bl l1=bl l':=by
     rcases hl' with rfl | rfl
     ·exact hb
     ·rw[dP,hb]
    have hs':l' <:+ M:=by
     rcases hl' with rfl | rfl
     ·exact hs2
     ·exact an (aH l2) hs2
    exact ihc l1 l' M hk hb' hs1 hs' hMs hln L left deep ns hL0 (by omega) hd0 hd ho hn (by omega)
theorem V8 {s:ap} (hs:s.length≤200) : ∀ n,V5 s n
 | 0=>fun l l0 _ _ _ h=>by omega
 | n+1=>by
  have HB:=V8 hs n
  intro l l0 hb hs1 hs2 hln L deep ns hL0 hL1 hd0 hd ho hn
  have hms:bl l <:+ s:=an (aH l) hs1
  have hm:=aR hms
  rw[to,HJ (5 - L).toNat L (by omega) hL0,Y3]
  refine rr (V7 hs HB _ l l0 rfl hb hs1 hs2 (by omega) deep ns hd0 hd ho hn) ?_ ?_
  ·intro i x1 x2 ns' e1 e2 e3 e4 e5 _
   have hbx:=aR (aH x1)
   have hx:=aR e2
   exact Yb hs HB _ (5 - L).toNat x1 x2 (bl l) rfl e1 e2 e3 hms (by omega) L i deep ns' hL0 (by omega) hd0 (by omega) e4 e5 (.inr (by have:=TZ (gd (bl x1)); omega))
  ·intro i x1 b1 ns1 j x2 ns2 e1 e2 e3 e4 e5
   have hx:=aR e2
   rw[DL]
   exact jT (AC _ x1 rfl (fun l' _ deep least b ns d0 d1 hn=>DJ l' deep least b ns d0 d1 hn) L deep i b1 ns1 hd0 (by omega) e3) e1 e2 rfl e4 e5
theorem OF {ns:List ab} (h:sm ns=true) : ∀ x∈ns,x.2.2.1.2.2.1.size≤9223372036854775807:=by
 unfold sm at h
 rw[ck_] at h
 exact fun x hx=>OC (h x hx)
theorem OG {ns:List ab} (h:sm ns=true) : ∀ x∈ns,x.2.2.2.2.2.1.length≤10000000:=by
 unfold sm at h
 rw[ck_] at h
 intro x hx
 have:=h x hx
 unfold wQ at this
 rw[ah_,ai_,ai_] at this
 omega
theorem aaZ (s:ap):at' s s=0:=by
 unfold at'
 omega
theorem L1 {x:aa_} (hx:x.size≤9223372036854775807) : ∃(f:List ab) (b:Bool),kb x=some ((f,b,()),())∧kg x=some ((f,b,()),())∧(b=true→fg f=true)∧(b=false→f=[]):=by
 obtain⟨s,rfl⟩ : ∃ s,x=ba s:=⟨lb x,(ec x).symm⟩
 rw[GY,G5,nZ hx,Ak hx]
 simp only[ab_]
 cases hp:(plain (ba s) && decide (((ba s).size:Int)≤200)) with
 | false=>exact⟨[],false,rfl,rfl,(fun h=>by cases h),fun _=>rfl⟩
 | true =>
  rw[ah_,ai_,aQ] at hp
  have hs:s.length≤200:=by omega
  have hbl:=aR (aH s)
  have h:=V8 hs (s.length+1) s s rfl (oV s) (oV s) (by omega) 1 0 [] (by decide) (by decide) (by decide) (by omega) rfl (by simp)
  rw[aaZ] at h
  simp only[bc_,aj_,aw_]
  rcases h with⟨i,l1,l2,ns,e1,e2,h1,h2,h3,h4,h5,h6⟩ | ⟨i,l1,b1,ns1,j,l2,ns2,e1,h1,h2,h3,e2,h4,h5⟩
  ·rw[e1,e2]
   simp only[ab_]
   rw[Oj (by omega) (an h3 (aH s)),qz]
   simp only[ab_,aj_,aw_]
   have e0:(ag_ (ba (bl l1)) == ag_ (⟨#[]⟩:aa_))=decide (bl l1=[]):=dG (b:=[])
   rw[e0,←h1,aQ,ou (by omega) (OF (vx h4)) (OG (vx h4)),lr (by omega) (OF (vx h4)) (OG (vx h4))]
   simp only[ab_]
   by_cases hr:bl l1=[]
   ·rw[aD (by rw[hr]; unfold at'; simp),hr]
    simp only[ch_,bc_,aj_,aw_]
    cases hk:fg ns with
    | true=>exact⟨ns,true,rfl,rfl,fun _=>hk,fun h=>by cases h⟩
    | false=>exact⟨[],false,rfl,rfl,(fun h=>by cases h),fun _=>rfl⟩
   ·have hlen:=ew_.2 hr
    have hls:=aR (an (an (aH l1) h2) (aH s))
    rw[aI (by unfold at'; omega)]
    simp only[hr,cr_,bm_,ba_]
    exact⟨[],false,rfl,rfl,(fun h=>by cases h),fun _=>rfl⟩
  ·rw[e1,e2]
   simp only[ab_]
   rw[Oj (by omega) h4,qz]
   simp only[ab_,ba_]
   refine⟨[],false,rfl,?_,(fun h=>by cases h),fun _=>rfl⟩
   cases b1 with
   | true=>rfl
   | false =>
    have hbad:dz ns1=false:=h1.1.elim (fun h=>by cases h) id
    simp only[aj_,aw_]
    split
    ·rfl
    ·rw[ou (by omega) (OF h1.2) (OG h1.2)]
     simp only[ab_]
     cases hk:fg ns1 with
     | false=>rfl
     | true =>
      exfalso
      have:dz ns1=true:=by
       unfold dz
       rw[ck_]
       intro y hy
       obtain⟨i,hi⟩:=List.getElem?_of_mem hy
       exact(kV hk i y hi).1
      rw[this] at hbad
      cases hbad
def qT:ap→ap
 | []=>[]
 | c :: l=>if c=34 then 34 :: 34 :: qT l else c :: qT l
theorem V9 : ∀ l:ap,(qT l).length≤2*l.length
 | []=>by simp[qT]
 | c :: l=>by
  have:=V9 l
  unfold qT
  split <;> simp only[ak_] <;> omega
theorem OH (l:ap) : ∀ pre:ap,(34:UInt8) ∉ pre→qT (pre++l)=pre++qT l
 | [],_=>rfl
 | c :: pre,h=>by
  simp only[bb_,not_or] at h
  rw[eg_,qT,ad_ (fun e=>h.1 e.symm),OH l pre h.2]
  rfl
theorem T1 : ∀(n:Nat) (l:ap),l.length=n→Lib.replaceK [34] [34,34] (l.count 34) l=qT l:=by
 intro n
 induction n using Nat.strongRecOn with
 | ind n ih =>
  intro l hn
  by_cases hm:(34:UInt8)∈l
  ·obtain⟨pre,t,rfl,h2⟩:=FD 34 l hm
   have hc:(pre++34 :: t).count 34=t.count 34+1:=by
    rw[List.count_append,List.count_eq_zero.2 h2,List.count_cons_self]
    omega
   have hi:Lib.index (pre++34 :: t) [34]=(pre.length:Nat):=by rw[Lib.index_one,I4 34 t pre h2]
   rw[hc,Lib.replaceK_hit _ _ _ _ _ hi,List.take_left' rfl,OH _ pre h2]
   have hd:(pre++34 :: t).drop (pre.length+([34]:ap).length)=t:=by
    have:pre++34 :: t=(pre++[34])++t:=by simp
    rw[this,List.drop_left' (by simp)]
   rw[hd,ih t.length (by rw[←hn]; simp; omega) t rfl]
   simp[qT]
  ·rw[List.count_eq_zero.2 hm]
   have:=OH [] l hm
   rw[bx_] at this
   rw[this]
   simp[qT,Lib.replaceK]
theorem Qq {l:ap} (hl:l.length≤1000000):strings_ReplaceAll (ba l) (⟨#[34]⟩:aa_) (⟨#[34,34]⟩:aa_)=some ((ba (qT l),()),()):=by
 rw[yw]
 have hcount:Lib.countB (ba l) (ba [34])=l.count 34:=by
  show Lib.count (lb (ba l)) (lb (ba [34]))=_
  rw[dy,dy,Lib.count_one]
 have hle:l.count 34≤l.length:=List.count_le_length
 show(if(ba l).size < 4294967281∧1≤(ba [34]).size∧(ba l).size+Lib.countB (ba l) (ba [34])*(ba [34,34]).size≤140737488355328 then some (((⟨(Lib.replaceAll (lb (ba l)) (lb (ba [34])) (lb (ba [34,34]))).toArray⟩:aa_),()),()) else none)=_
 rw[af_ ⟨by rw[aQ]; omega,by decide,by rw[hcount,aQ,aQ]; simp only[ak_,bi_]; omega⟩,dy,dy,dy]
 congr 3
 show ba (Lib.replaceAll l [34] [34,34])=_
 unfold Lib.replaceAll Lib.replace Lib.replaceNum
 rw[ad_ (by decide),af_ (.inl (by decide)),Lib.count_one,T1 _ l rfl]
theorem xy {s:ap} (hs:s.length≤1000000) : ∀(l acc:ap),l <:+ s→acc.length+2*l.length≤4000000→nR (ba s) (ba acc) (at' s l)=some ((ba (acc++qT l++[34]),()),())
 | [],acc,h,ha=>by
  rw[yD,aD (by rw[aQ]; unfold at'; simp),show(⟨#[34]⟩:aa_)=ba [34] from rfl,bN (by simp only[ac_]; simp at ha; omega)]
  simp[qT]
 | c :: l,acc,h,ha=>by
  obtain⟨pre,h1,h2⟩:=oU h
  have hl:pre.length+l.length+1=s.length:=by rw[h1]; simp; omega
  rw[ak_] at ha
  have h':l <:+ s:=an ⟨[c],rfl⟩ h
  have e1:(pre.length:Int)+1=at' s l:=by
   unfold at'
   omega
  have e3:(s.take (pre.length+1)).drop pre.length=[c]:=by
   rw[h1,List.take_append,List.drop_append]
   simp
  rw[yD,h2,aI (by rw[aQ]; omega),lv h1,Fw c 34 (n:=34) rfl,wr (by omega) (by omega),show(pre.length:Int)+1=((pre.length+1:Nat):Int) by omega,yU (by omega) (by omega),e3]
  by_cases hc:c=34
  ·subst hc
   rw[aI rfl,show(⟨#[34]⟩:aa_)=ba [34] from rfl,bN (by simp only[ac_]; omega),yU (by omega) (by omega),e3,bN (by simp only[ae_,ac_]; omega),show((pre.length+1:Nat):Int)=at' s l by omega,xy hs l _ h' (by simp only[ae_,ac_]; omega)]
   simp[qT]
  ·rw[aD hc,bN (by simp only[ac_]; omega),show((pre.length+1:Nat):Int)=at' s l by omega,xy hs l _ h' (by simp only[ae_,ac_]; omega)]
   simp[qT,hc]
theorem Wa {l:ap} (hl:l.length≤1000000):E8 (ba l)=some ((ba (34 :: (qT l++[34])),()),()):=by
 rw[P0,show(⟨#[34]⟩:aa_)=ba [34] from rfl]
 have:=xy hl l [34] (oV l) (by simp only[ac_]; omega)
 rw[aaZ] at this
 rw[this]
 simp
def dx:List ap→ap
 | []=>[]
 | [x]=>x
 | x :: y :: l=>x++44 :: dx (y :: l)
def dp (f:List ab):Nat→Int→Int→ap
 | 0,_,_=>[]
 | n+1,k,L =>
  let x:=fb f k
  if x.1=1 then(if x.2.2.1.1=2 then 34 :: (qT (lb x.2.2.1.2.2.1)++[34]) else lb (bO x.2.2.1))
  else if x.1=2 then mA x.2.2.2.1
  else if x.1=3 then mA x.2.2.2.1++58 :: mA x.2.2.2.2.1
  else if x.1=4 then 45 :: dp f n (x.2.2.2.2.2.1.getD 0 0) 5
  else if x.1=5 then
   let b:=dp f n (x.2.2.2.2.2.1.getD 0 0) (dL x.2.1)++(eJ x.2.1++dp f n (x.2.2.2.2.2.1.getD 1 0) (dL x.2.1+1))
   if dL x.2.1 < L then 40 :: (b++[41]) else b
  else gD x.2.1++40 :: (dx (x.2.2.2.2.2.1.map fun k=>dp f n k 1)++[41])
theorem Ez : ∀ l:List ap,dx l=Lib.join l [44]
 | []=>rfl
 | [x]=>by rw[Lib.join_one]; rfl
 | x :: y :: l=>by
  rw[dx,Ez (y :: l),Lib.join_cons,Lib.join_cons]
  simp[Lib.joinTail]
theorem EA (x:ap) : ∀(l:List ap),l≠[]→dx (l++[x])=dx l++44 :: x
 | [y],_=>rfl
 | y :: z :: l,_=>by
  show y++44 :: dx (z :: l++[x])=(y++44 :: dx (z :: l))++44 :: x
  rw[EA x (z :: l) (by simp)]
  simp
theorem HK : ∀ l:List ap,(dx l).length≤(l.map al_).sum+l.length
 | []=>by simp[dx]
 | [x]=>by simp[dx]
 | x :: y :: l=>by
  have:=HK (y :: l)
  simp only[dx,ae_,ak_,cs_,List.sum_cons] at this ⊢
  omega
theorem Yc {xs:List ap} (h1:xs.length≤1000) (h2:(dx xs).length≤10000000):strings_Join (xs.map fun x=>ba x) (⟨#[44]⟩:aa_)=some ((ba (dx xs),()),()):=by
 rw[G7]
 have e:(xs.map fun x=>ba x).map (·.data.toList)=xs:=by
  rw[fk_]
  conv=>rhs; rw[←List.map_id xs]
  apply List.map_congr_left
  intro x _
  exact dy x
 show(if(xs.map fun x=>ba x).length≤140737488355328∧(Lib.join ((xs.map fun x=>ba x).map (·.data.toList)) (lb (ba [44]))).length≤140737488355328 then some (((⟨(Lib.join ((xs.map fun x=>ba x).map (·.data.toList)) (lb (ba [44]))).toArray⟩:aa_),()),()) else none)=_
 rw[e,dy,←Ez,af_ ⟨by rw[bp_]; omega,by omega⟩]
theorem DM {p:cl} (h:bT p.1=true):(mA p).length≤6:=by
 obtain⟨c,r,fc,fr,rfl,h1,h2,h3,h4⟩:=C0 h
 have k1:=vu c
 have k2:=tT h4
 show(za c r fc fr).length≤6
 unfold za rn
 simp only[ae_]
 cases fc <;> cases fr <;> simp <;> omega
theorem RC (k:Int):(gD k).length≤5:=by
 unfold gD
 by_cases hi:k.toNat < 11
 ·have h : ∀ j:Fin 11,(([[],[83,85,77],[77,73,78],[77,65,88],[67,79,85,78,84],[73,70],[65,78,68],[79,82],[78,79,84],[65,66,83],[76,69,78]]:List ap).getD j.val []).length≤5:=by decide
  exact h ⟨k.toNat,hi⟩
 ·rw[ao_,cd_ (by simp; omega)]
  simp
theorem OI {c:Int→Option (Int×Nat)} {f:List ab} {call:Bool} : ∀(l:List Int) (cur:Int) (h:Nat) (s:Int) (h':Nat),gk c f call l cur h=some (s,h') →
  (∀ kid∈l,∃ p,c kid=some p) ∧ ∀ g:Int→Nat,(∀ kid s' h'',c kid=some (s',h'')→(g kid:Int)≤1000*(kid - s'+1))→(((l.map g).sum:Nat):Int)≤1000*(cur - s)
 | [],cur,h,s,h',e=>by
  simp only[gk,bg_,fm_] at e
  obtain⟨rfl,_⟩:=e
  exact⟨fun _ h=>by simp at h,fun g _=>by simp⟩
 | kid :: l,cur,h,s,h',e=>by
  simp only[gk] at e
  split at e
  ·rename_i hk
   rw[Option.bind_eq_some_iff] at e
   obtain⟨p,hp,e⟩:=e
   obtain⟨k1,k2⟩:=OI l p.1 _ s h' e
   refine⟨fun kid' hm => ?_,fun g hg => ?_⟩
   ·rcases bb_.1 hm with rfl | hm
    ·exact⟨p,hp⟩
    ·exact k1 kid' hm
   ·have h1:=k2 g hg
    have h2:=hg kid p.1 p.2 hp
    have:=hk.1
    simp only[cs_,List.sum_cons]
    omega
  ·cases e
section
variable {f:List ab}
theorem HL (n:Nat) (k:Int):dp f n k 0=dp f n k 1:=by
 cases n with
 | zero=>rfl
 | succ n =>
  have hlv : ∀ j,¬dL j < 0 ∧ ¬dL j < 1:=by
   intro j
   unfold dL
   constructor <;> (repeat' split) <;> omega
  unfold dp
  simp only[(hlv _).1,(hlv _).2,aw_]
def T2 (f:List ab) (n:Nat) (k:Int):Prop := ∀ L:Int,gw f k L=some ((ba (dp f n k L),()),())∧mZ f k L=some ((ba (dp f n k L),()),())
theorem HM {n:Nat} {kids:List Int} {a op:Int} {v:ac} {A B:cl} {kids':List Int} (hop:0≤op∧op≤10) (hl:kids.length≤10) (hk : ∀ k∈kids,T2 f n k) (hlen:(dx (kids.map fun k=>dp f n k 1)).length≤1000000) : ∀(ys pre:List Int),kids=pre++ys →
  kT f kids (kids.length:Int) (pre.length:Int) a op v A B kids' ((pre.map fun k=>dp f n k 1).map fun x=>ba x)=some ((ba (gD op++40 :: (dx (kids.map fun k=>dp f n k 1)++[41])),()),())
 | [],pre,h=>by
  rw[bx_] at h
  subst h
  have hf:=RC op
  rw[qK,aD (Int.lt_irrefl _),HG hop.1 hop.2]
  simp only[ab_]
  rw[show(⟨#[40]⟩:aa_)=ba [40] from rfl,bN (by simp only[ac_]; omega),Yc (by rw[bp_]; omega) (by omega)]
  simp only[ab_]
  rw[bN (by simp only[ae_,ac_]; omega),show(⟨#[41]⟩:aa_)=ba [41] from rfl,bN (by simp only[ae_,ac_]; omega)]
  simp
 | y :: ys,pre,h=>by
  rw[qK,aI (bA h),bD h,(hk y (by rw[h]; simp) 1).1]
  simp only[ab_]
  have hpl:pre.length≤10:=by
   have:=congrArg al_ h
   simp at this
   omega
  rw[bg (by simp only[bp_,ac_]; omega),aK h (by omega)]
  have:=HM (a:=a) (v:=v) (A:=A) (B:=B) (kids':=kids') hop hl hk hlen ys (pre++[y]) (aB h)
  rw[ga_,ga_] at this
  exact this
theorem HN {n:Nat} {kids:List Int} {a op:Int} {v:ac} {A B:cl} (hl:kids.length≤10) (hk : ∀ k∈kids,T2 f n k) (hlen : ∀ pre ys:List Int,kids=pre++ys→(dx (pre.map fun k=>dp f n k 1)).length≤1000000) (hop:(gD op).length≤5) : ∀(ys pre:List Int),kids=pre++ys →
  nS f (ba (gD op++40 :: dx (pre.map fun k=>dp f n k 1))) (pre.length:Int) a op v A B kids=some ((ba (gD op++40 :: (dx (kids.map fun k=>dp f n k 1)++[41])),()),())
 | [],pre,h=>by
  have h0:=hlen pre [] h
  rw[bx_] at h
  subst h
  rw[yE,aD (Int.lt_irrefl _),show(⟨#[41]⟩:aa_)=ba [41] from rfl,bN (by simp only[ae_,ak_,bi_]; omega)]
  simp
 | y :: ys,pre,h=>by
  have h0:=hlen pre (y :: ys) h
  have h1:=hlen (pre++[y]) ys (aB h)
  have hpl:pre.length≤10:=by
   have:=congrArg al_ h
   simp at this
   omega
  have ih:=HN (a:=a) (v:=v) (A:=A) (B:=B) hl hk hlen hop ys (pre++[y]) (aB h)
  rw[ga_,List.map_singleton] at ih h1
  rw[yE,aI (bA h)]
  by_cases hp:pre=[]
  ·subst hp
   simp only[da_,List.map_nil,dx] at ih h1 ⊢
   rw[aD (by simp),bD (pre:=[]) h,(hk y (by rw[h]; simp) 0).2,HL]
   simp only[ab_]
   rw[bN (by simp only[ae_,ak_,bi_]; omega),aK (pre:=[]) h (by omega)]
   have e:gD op++[40]++dp f n y 1=gD op++40 :: dp f n y 1:=by simp
   rw[e]
   exact ih
  ·have hpos:=ew_.2 hp
   rw[EA _ _ (by simpa using hp)] at ih h1
   simp only[ae_,ak_] at h1
   rw[aI (by omega),show(⟨#[44]⟩:aa_)=ba [44] from rfl,bN (by simp only[ae_,ak_,bi_]; omega),bD h,(hk y (by rw[h]; simp) 0).2,HL]
   simp only[ab_]
   rw[bN (by simp only[ae_,ak_,bi_]; omega),aK h (by omega)]
   have e:gD op++40 :: dx (pre.map fun k=>dp f n k 1)++[44]++dp f n y 1=gD op++40 :: (dx (pre.map fun k=>dp f n k 1)++44 :: dp f n y 1):=by simp
   rw[e]
   exact ih
end
section
variable {f:List ab}
theorem aa0 {l:List Int} (h:l.length=2) : ∃ a b,l=[a,b]:=by
 match l,h with
 | [a,b],_=>exact⟨a,b,rfl⟩
theorem I9 (hf:f.length≤60) : ∀(n:Nat) (k s:Int) (h:Nat),fG f n k=some (s,h)→T2 f n k ∧ ∀ L:Int,((dp f n k L).length:Int)≤1000*(k - s+1)
 | 0,k,s,h,e=>by simp[fG] at e
 | n+1,k,s,h,e=>by
  have hall:=jt f (n+1) k s h e
  obtain⟨hs0,hsk,_⟩:=hall
  have IH:=I9 hf n
  simp only[fG] at e
  split at e
  ·rename_i h0
   split at e
   ·cases e
   ·rename_i x hx
    split at e
    ·rename_i hok
     obtain⟨q1,q2⟩:=OI _ _ _ _ _ e
     have hkl:k < 60:=by
      have:=(List.getElem?_eq_some_iff.1 hx).1
      omega
     have hK : ∀ kid∈x.2.2.2.2.2.1,T2 f n kid ∧ ∃ s' h',fG f n kid=some (s',h'):=by
      intro kid hm
      obtain⟨p,hp⟩:=q1 kid (List.mem_reverse.2 hm)
      exact⟨(IH kid p.1 p.2 hp).1,p.1,p.2,hp⟩
     have hnode:fb f k=x:=by
      unfold fb
      rw[ao_,hx]
      rfl
     have hfx : ∀ L,dp f (n+1) k L=(if x.1=1 then(if x.2.2.1.1=2 then 34 :: (qT (lb x.2.2.1.2.2.1)++[34]) else lb (bO x.2.2.1))
      else if x.1=2 then mA x.2.2.2.1
      else if x.1=3 then mA x.2.2.2.1++58 :: mA x.2.2.2.2.1
      else if x.1=4 then 45 :: dp f n (x.2.2.2.2.2.1.getD 0 0) 5
      else if x.1=5 then(if dL x.2.1 < L then 40 :: ((dp f n (x.2.2.2.2.2.1.getD 0 0) (dL x.2.1)++(eJ x.2.1++dp f n (x.2.2.2.2.2.1.getD 1 0) (dL x.2.1+1)))++[41]) else(dp f n (x.2.2.2.2.2.1.getD 0 0) (dL x.2.1)++(eJ x.2.1++dp f n (x.2.2.2.2.2.1.getD 1 0) (dL x.2.1+1))))
      else gD x.2.1++40 :: (dx (x.2.2.2.2.2.1.map fun k=>dp f n k 1)++[41])):=by
      intro L
      conv=>lhs; unfold dp
      rw[hnode]
     have hI : ∀ L,gw f k L=_:=fun L=>(G6 (x0:=f) (x1:=k) (x2:=L)).trans (bP h0 hx)
     have hS : ∀ L,mZ f k L=_:=fun L=>(S2 (x0:=f) (x1:=k) (x2:=L)).trans (bP h0 hx)
     unfold dF kl at hok
     by_cases c1:x.1=1
     ·rw[af_ c1] at hok
      simp only[ah_,ai_] at hok
      have hv:=hok.1.1.2
      have hsz:=dE hv
      have b1:(x.1 == 1)=true:=by rw[c1]; rfl
      by_cases c2:x.2.2.1.1=2
      ·have b2:(x.2.2.1.1 == 2)=true:=by rw[c2]; rfl
       have hlb:(lb x.2.2.1.2.2.1).length≤200:=by rw[iA]; exact hsz
       have hq:=V9 (lb x.2.2.1.2.2.1)
       have ea : ∀ L,dp f (n+1) k L=34 :: (qT (lb x.2.2.1.2.2.1)++[34]):=fun L=>by rw[hfx,af_ c1,af_ c2]
       refine⟨fun L=>⟨?_,?_⟩,fun L => ?_⟩
       ·rw[hI,af_ b1,af_ b2,←ec x.2.2.1.2.2.1,Qq (by omega)]
        simp only[ab_]
        rw[show(⟨#[34]⟩:aa_)=ba [34] from rfl,bN (by simp only[ac_]; omega),bN (by simp only[ae_,ac_]; omega),ea]
        simp
       ·rw[hS,af_ b1,af_ b2,←ec x.2.2.1.2.2.1,Wa (by omega)]
        simp only[ab_]
        rw[ea]
       ·rw[ea]
        simp only[ak_,ae_,bi_]
        omega
      ·have b2 : ¬(x.2.2.1.1 == 2)=true:=by simpa using c2
       have hvs:=Kt hv
       have ea : ∀ L,dp f (n+1) k L=lb (bO x.2.2.1):=fun L=>by rw[hfx,af_ c1,ad_ c2]
       refine⟨fun L=>⟨?_,?_⟩,fun L => ?_⟩
       ·rw[hI,af_ b1,ad_ b2,s8 hv,ea,ec]
        rfl
       ·rw[hS,af_ b1,ad_ b2,eP (ca hv),af_ hv,ea,ec]
        rfl
       ·rw[ea,iA]
        omega
     rw[ad_ c1] at hok
     have b1 : ¬(x.1 == 1)=true:=by simpa using c1
     by_cases c2:x.1=2
     ·rw[af_ c2] at hok
      simp only[ah_,ai_] at hok
      have b2:(x.1 == 2)=true:=by rw[c2]; rfl
      have hr:=hok.2
      have hp:=DM hr
      have ea : ∀ L,dp f (n+1) k L=mA x.2.2.2.1:=fun L=>by rw[hfx,ad_ c1,af_ c2]
      refine⟨fun L=>⟨?_,?_⟩,fun L => ?_⟩
      ·rw[hI,ad_ b1,af_ b2,ow,af_ hr,ea]
       rfl
      ·rw[hS,ad_ b1,af_ b2,ox,af_ hr,ea]
       rfl
      ·rw[ea]
       omega
     rw[ad_ c2] at hok
     have b2 : ¬(x.1 == 2)=true:=by simpa using c2
     by_cases c3:x.1=3
     ·rw[af_ c3] at hok
      simp only[ah_,ai_] at hok
      have b3:(x.1 == 3)=true:=by rw[c3]; rfl
      have ha:=hok.2
      unfold qq at ha
      simp only[ah_,ai_] at ha
      have hr1:=ha.1.1.1
      have hr2:=ha.1.1.2
      have hp1:=DM hr1
      have hp2:=DM hr2
      have ea : ∀ L,dp f (n+1) k L=mA x.2.2.2.1++58 :: mA x.2.2.2.2.1:=fun L=>by rw[hfx,ad_ c1,ad_ c2,af_ c3]
      refine⟨fun L=>⟨?_,?_⟩,fun L => ?_⟩
      ·rw[hI,ad_ b1,ad_ b2,af_ b3,ow,af_ hr1]
       simp only[ab_]
       rw[show(⟨#[58]⟩:aa_)=ba [58] from rfl,bN (by simp only[ac_]; omega),ow,af_ hr2]
       simp only[ab_]
       rw[bN (by simp only[ae_,ac_]; omega),ea]
       simp
      ·rw[hS,ad_ b1,ad_ b2,af_ b3,ox,af_ hr1]
       simp only[ab_]
       rw[show(⟨#[58]⟩:aa_)=ba [58] from rfl,bN (by simp only[ac_]; omega),ox,af_ hr2]
       simp only[ab_]
       rw[bN (by simp only[ae_,ac_]; omega),ea]
       simp
      ·rw[ea]
       simp only[ae_,ak_]
       omega
     rw[ad_ c3] at hok
     have b3 : ¬(x.1 == 3)=true:=by simpa using c3
     by_cases c4:x.1=4
     ·rw[af_ c4] at hok
      simp only[ah_,ai_] at hok
      have b4:(x.1 == 4)=true:=by rw[c4]; rfl
      obtain⟨a,hkids⟩ : ∃ a,x.2.2.2.2.2.1=[a]:=List.length_eq_one_iff.1 (by omega)
      obtain⟨hka,sa,ha,hca⟩:=hK a (by rw[hkids]; simp)
      rw[hkids] at e q2 hI hS hfx
      have hla:=fun L=>(IH a sa ha hca).2 L
      simp only[List.reverse_singleton,gk] at e
      split at e
      ·rename_i hc
       rw[hca] at e
       simp only[ab_,bg_,fm_] at e
       obtain⟨rfl,_⟩:=e
       have ea : ∀ L,dp f (n+1) k L=45 :: dp f n a 5:=fun L=>by rw[hfx,ad_ c1,ad_ c2,ad_ c3,af_ c4]; rfl
       have h5:=hla 5
       refine⟨fun L=>⟨?_,?_⟩,fun L => ?_⟩
       ·rw[hI,ad_ b1,ad_ b2,ad_ b3,af_ b4,bP (y:=a) (by decide) rfl,(hka 5).1]
        simp only[ab_]
        rw[show(⟨#[45]⟩:aa_)=ba [45] from rfl,bN (by simp only[ac_]; omega),ea]
        rfl
       ·rw[hS,ad_ b1,ad_ b2,ad_ b3,af_ b4,bP (y:=a) (by decide) rfl,(hka 5).2]
        simp only[ab_]
        rw[show(⟨#[45]⟩:aa_)=ba [45] from rfl,bN (by simp only[ac_]; omega),ea]
        rfl
       ·rw[ea]
        simp only[ak_]
        omega
      ·cases e
     rw[ad_ c4] at hok
     have b4 : ¬(x.1 == 4)=true:=by simpa using c4
     by_cases c5:x.1=5
     ·rw[af_ c5] at hok
      simp only[ah_,ai_] at hok
      have b5:(x.1 == 5)=true:=by rw[c5]; rfl
      obtain⟨o1,o2⟩:=bC.1 hok.1.1.1.1
      obtain⟨a,b,hkids⟩ : ∃ a b,x.2.2.2.2.2.1=[a,b]:=aa0 (by omega)
      obtain⟨hka,sa,ha,hca⟩:=hK a (by rw[hkids]; simp)
      obtain⟨hkb,sb,hb,hcb⟩:=hK b (by rw[hkids]; simp)
      rw[hkids] at e q2 hI hS hfx
      have hla:=fun L=>(IH a sa ha hca).2 L
      have hlb:=fun L=>(IH b sb hb hcb).2 L
      have hsa:=jt f n a sa ha hca
      have hsb:=jt f n b sb hb hcb
      simp only[List.reverse_cons,List.reverse_nil,da_,eg_,gk] at e
      split at e
      ·rename_i hc
       rw[hcb] at e
       simp only[ab_] at e
       split at e
       ·rename_i hc2
        rw[hca] at e
        simp only[ab_,bg_,fm_] at e
        obtain⟨rfl,_⟩:=e
        have hlv:1≤dL x.2.1∧dL x.2.1≤4:=by
         unfold dL
         constructor <;> (repeat' split) <;> omega
        have ho:=DG x.2.1
        have h1:=hla (dL x.2.1)
        have h2:=hlb (dL x.2.1+1)
        have i1:=hsa.2.1
        have i2:=hsb.2.1
        have ea : ∀ L,dp f (n+1) k L=if dL x.2.1 < L then 40 :: ((dp f n a (dL x.2.1)++(eJ x.2.1++dp f n b (dL x.2.1+1)))++[41]) else(dp f n a (dL x.2.1)++(eJ x.2.1++dp f n b (dL x.2.1+1))):=fun L=>by rw[hfx,ad_ c1,ad_ c2,ad_ c3,ad_ c4,af_ c5]; rfl
        refine⟨fun L=>⟨?_,?_⟩,fun L => ?_⟩
        ·rw[hI,ad_ b1,ad_ b2,ad_ b3,ad_ b4,af_ b5,KG o1 o2]
         simp only[ab_]
         rw[bP (y:=a) (by decide) rfl,(hka _).1]
         simp only[ab_]
         rw[Az (by omega) o2]
         simp only[ab_]
         rw[bN (by omega),bP (y:=b) (by decide) rfl,wr (by omega) (by omega),(hkb _).1]
         simp only[ab_]
         rw[bN (by simp only[ae_]; omega),ea]
         by_cases hL:dL x.2.1 < L
         ·rw[aI hL,af_ hL,show(⟨#[40]⟩:aa_)=ba [40] from rfl,bN (by simp only[ae_,ac_]; omega),show(⟨#[41]⟩:aa_)=ba [41] from rfl,bN (by simp only[ae_,ac_]; omega)]
          simp
         ·rw[aD hL,ad_ hL]
          simp
        ·rw[hS,ad_ b1,ad_ b2,ad_ b3,ad_ b4,af_ b5,xx]
         simp only[ab_]
         rw[bP (y:=a) (by decide) rfl,(hka _).2]
         simp only[ab_]
         rw[tU (by omega) o2]
         simp only[ab_]
         rw[bN (by omega),bP (y:=b) (by decide) rfl,wr (by omega) (by omega),(hkb _).2]
         simp only[ab_]
         rw[bN (by simp only[ae_]; omega),ea]
         by_cases hL:dL x.2.1 < L
         ·rw[aI hL,af_ hL,show(⟨#[40]⟩:aa_)=ba [40] from rfl,bN (by simp only[ae_,ac_]; omega),show(⟨#[41]⟩:aa_)=ba [41] from rfl,bN (by simp only[ae_,ac_]; omega)]
          simp
         ·rw[aD hL,ad_ hL]
          simp
        ·rw[ea]
         split <;> simp only[ae_,ak_,bi_] <;> omega
       ·cases e
      ·cases e
     rw[ad_ c5] at hok
     have b5 : ¬(x.1 == 5)=true:=by simpa using c5
     by_cases c6:x.1=6
     ·rw[af_ c6] at hok
      simp only[ah_,ai_] at hok
      have hargs:=hok.1.1.1
      have hkn:1≤x.2.2.2.2.2.1.length∧x.2.2.2.2.2.1.length≤10∧0≤x.2.1∧x.2.1≤10:=by
       unfold n4 at hargs
       split at hargs
       ·simp only[Bool.or_eq_true,ai_] at hargs
        omega
       ·split at hargs
        ·rename_i hi
         have:=bC.1 hi
         have:=bC.1 hargs
         omega
        ·split at hargs
         ·rename_i hi
          have:=bC.1 hi
          simp only[ai_] at hargs
          omega
         ·cases hargs
      have hg:=q2 (fun kid=>(dp f n kid 1).length) (fun kid s' h'' hc=>(IH kid s' h'' hc).2 1)
      rw[List.map_reverse,List.sum_reverse] at hg
      have hfn:=RC x.2.1
      have hcl : ∀ l:List Int,(dx (l.map fun k=>dp f n k 1)).length≤(l.map fun k=>(dp f n k 1).length).sum+l.length:=by
       intro l
       have:=HK (l.map fun k=>dp f n k 1)
       rw[fk_,bp_] at this
       exact this
      have hc0:=hcl x.2.2.2.2.2.1
      have ea : ∀ L,dp f (n+1) k L=gD x.2.1++40 :: (dx (x.2.2.2.2.2.1.map fun k=>dp f n k 1)++[41]):=fun L=>by rw[hfx,ad_ c1,ad_ c2,ad_ c3,ad_ c4,ad_ c5]
      refine⟨fun L=>⟨?_,?_⟩,fun L => ?_⟩
      ·rw[hI,ad_ b1,ad_ b2,ad_ b3,ad_ b4,ad_ b5,ea]
       exact HM ⟨hkn.2.2.1,hkn.2.2.2⟩ hkn.2.1 (fun k hk=>(hK k hk).1) (by omega) _ [] rfl
      ·rw[hS,ad_ b1,ad_ b2,ad_ b3,ad_ b4,ad_ b5,Ov hkn.2.2.1 hkn.2.2.2]
       simp only[ab_]
       rw[show(⟨#[40]⟩:aa_)=ba [40] from rfl,bN (by simp only[ac_]; omega),ea]
       refine HN hkn.2.1 (fun k hk=>(hK k hk).1) (fun pre ys hpy => ?_) hfn _ [] rfl
       have h1:=hcl pre
       have h2:(pre.map fun k=>(dp f n k 1).length).sum≤(x.2.2.2.2.2.1.map fun k=>(dp f n k 1).length).sum:=by
        rw[hpy,ga_,List.sum_append]
        omega
       have h3:=congrArg al_ hpy
       rw[ae_] at h3
       omega
      ·rw[ea]
       simp only[ae_,ak_,bi_]
       omega
     ·rw[ad_ c6] at hok
      cases hok
    ·cases e
  ·cases e
theorem Ja (hl:f.length≤10000000) (hs : ∀ x∈f,x.2.2.1.2.2.1.size≤9223372036854775807) (hk : ∀ x∈f,x.2.2.2.2.2.1.length≤10000000) : ∃ t:ap,qe f=some ((ba t,()),())∧p9 f=some ((ba t,()),())∧t.length≤200:=by
 rw[wo,wm,ou hl hs hk,lr hl hs hk]
 simp only[ab_]
 cases ho:fg f with
 | false=>exact⟨[],rfl,rfl,by simp⟩
 | true =>
  simp only[bc_,aj_,aw_]
  have ho':=ho
  unfold fg at ho'
  rw[ah_] at ho'
  have hlen:=bC.1 ho'.1
  have ht:=ho'.2
  unfold vl at ht
  cases hc:fG f f.length ((f.length:Int) - 1) with
  | none=>rw[hc] at ht; cases ht
  | some p =>
   obtain⟨h1,h2⟩:=I9 (by omega) f.length ((f.length:Int) - 1) p.1 p.2 hc
   rw[wr (by omega) (by omega),(h1 1).1,(h1 0).2,HL]
   simp only[ab_,aQ]
   by_cases hb:(dp f f.length ((f.length:Int) - 1) 1).length > 200
   ·rw[aI (by omega)]
    exact⟨[],rfl,rfl,by simp⟩
   ·rw[aD (by omega)]
    exact⟨_,rfl,rfl,by omega⟩
end
def Ok {α:Type} (P:α→Prop) (o:Option α):Prop := ∃ a,o=some a∧P a
theorem Ok.one {α:Type} {P:α→Prop} {a:α} (h:P a):Ok P (some a):=⟨a,rfl,h⟩
theorem Ok.bnd {α β:Type} {P:α→Prop} {Q:β→Prop} {o:Option α} {f:α→Option β} (h:Ok P o) (k : ∀ a,P a→Ok Q (f a)):Ok Q (o.bind f):=by
 obtain⟨a,e,p⟩:=h
 rw[e]
 exact k a p
theorem Ok.ite {α:Type} {c:Prop} [Decidable c] {Q:α→Prop} {a b:Option α} (h:c→Ok Q a) (k : ¬c→Ok Q b):Ok Q (if c then a else b):=by
 by_cases e:c
 ·rw[af_ e]; exact h e
 ·rw[ad_ e]; exact k e
theorem Ok.inb {α β:Type} {Q:β→Prop} {xs:List α} {i:Int} {k:Option β} (h:0≤i∧i < (xs.length:Int)) (hk:Ok Q k):Ok Q (inb xs i k):=by
 rw[bI h.1 h.2]; exact hk
theorem Ok.cats {β:Type} {Q:β→Prop} {a b:aa_} {f:aa_→Option β} (h:a.size+b.size≤9223372036854775807) (hk:Ok Q (f (a++b))):Ok Q (cats a b f):=by
 rw[ga h]; exact hk
theorem Ok.nz {β:Type} {Q:β→Prop} {b:Int} {k:Option β} (h:b≠0) (hk:Ok Q k):Ok Q (nz b k):=by
 rw[GU h]; exact hk
theorem Ok.app {α β:Type} {Q:β→Prop} {a b:List α} {n:Nat} {f:List α→Option β} (h:(a.length+b.length)*n≤140737488355328) (hk:Ok Q (f (a++b))):Ok Q (app a b n f):=by
 rw[bg h]; exact hk
theorem Ok.mono {α:Type} {P Q:α→Prop} {o:Option α} (h:Ok P o) (k : ∀ a,P a→Q a):Ok Q o:=by
 obtain⟨a,e,p⟩:=h
 exact⟨a,e,k a p⟩
theorem abG {α β:Type} {xs:List α} {i:Int} {d:α} {f:α→Option β} (h0:0≤i) (h1:i < (xs.length:Int)):ix xs i d f=f (xs.getD i.toNat d):=by
 have hl:i.toNat < xs.length:=by omega
 rw[bP h0 (as_ hl),ao_,as_ hl]
 rfl
theorem Wb {l:List aa_} {n:Nat} (h : ∀ x∈l,x.size≤n) (i:Nat) (d:aa_) (hd:d.size≤n):(l.getD i d).size≤n:=by
 rw[ao_]
 by_cases e:i < l.length
 ·rw[as_ e]; exact h _ (dq_ e)
 ·rw[cd_ (by omega)]; exact hd
structure KP (c:List Int):Prop where
 len:c.length≤1048576
 all : ∀ b∈c,0≤b∧b≤255
def Rd (c:List Int) (s:aJ):Prop:=s.1=c∧0≤s.2.1∧s.2.1≤(c.length:Int)
section
variable {c:List Int} (hc:KP c)
include hc
theorem ue {s:aJ} (h:Rd c s):Ok (fun z=>(0≤z.1.1∧z.1.1≤255)∧Rd c z.2.1) (jM s):=by
 obtain⟨x,i,u⟩:=s
 obtain⟨h1,h2,h3⟩:=h
 simp only at h1 h2 h3
 subst h1
 have hl:=hc.len
 rw[yu]
 show Ok _ (if decide (i≥(x.length:Int))=true then some ((0,()),((x,i,u),())) else ix x (ha_ hb_ ((ha_ hb_ (i+1)) - 1)) 0 fun y1=>(some (((ha_ hb_ y1),()),((x,(ha_ hb_ (i+1)),()),()))))
 refine Ok.ite (fun _=>Ok.one ⟨⟨cj_ _,by show(0:Int)≤255; decide⟩,rfl,h2,h3⟩) fun e => ?_
 have e':i < (x.length:Int):=by simp only[ai_] at e; omega
 rw[wr (n:=i+1) (by omega) (by omega),wr (n:=i+1 - 1) (by omega) (by omega),show i+1 - 1=i by omega,abG h2 e']
 have hb:0≤x.getD i.toNat 0∧x.getD i.toNat 0≤255:=by
  rw[ao_,as_ (by omega)]
  exact hc.all _ (dq_ _)
 rw[wr (by omega) (by omega)]
 exact Ok.one ⟨hb,rfl,by show(0:Int)≤i+1; omega,by show i+1≤(x.length:Int); omega⟩
theorem rt {n:Int} {s:aJ} (h:Rd c s) (hn:1≤n):Ok (fun z=>(0≤z.1.1∧z.1.1 < n)∧Rd c z.2.1) (az n s):=by
 rw[GW]
 refine Ok.ite (fun _=>Ok.one ⟨⟨cj_ _,by show(0:Int) < n; omega⟩,h⟩) fun _=>Ok.ite (fun _ => ?_) fun _ => ?_
 ·refine Ok.bnd (ue hc h) fun z hz=>Ok.nz (by omega) (Ok.one ⟨⟨Int.tmod_nonneg _ hz.1.1,gw_ _ (by omega)⟩,hz.2⟩)
 ·refine Ok.bnd (ue hc h) fun z hz=>Ok.bnd (ue hc hz.2) fun y hy => ?_
  have h1:=hz.1
  have h2:=hy.1
  rw[wr (n:=z.1.1*256) (by omega) (by omega),wr (by omega) (by omega)]
  exact Ok.nz (by omega) (Ok.one ⟨⟨Int.tmod_nonneg _ (by omega),gw_ _ (by omega)⟩,hy.2⟩)
theorem OJ {s:aJ} (h:Rd c s):Ok (fun z=>bT z.1.1=true∧Rd c z.2.1) (bH s):=by
 rw[Nn]
 refine Ok.bnd (rt hc h (by decide)) fun z hz=>Ok.bnd (rt hc hz.2 (by decide)) fun y hy => ?_
 have h1:=hz.1
 have h2:=hy.1
 rw[wr (by omega) (by omega),wr (by omega) (by omega)]
 refine Ok.one ⟨?_,hy.2⟩
 rw[sK]
 show(1≤1+z.1.1∧1+z.1.1≤52)∧1≤1+y.1.1∧1+y.1.1≤99
 omega
theorem Jb {n:Int} {s:aJ} (h:Rd c s) (hn:1≤n):Ok (fun z=>Rd c z.2.1) (bZ n s):=by
 rw[Lf]
 exact Ok.bnd (rt hc h hn) fun z hz=>Ok.one hz.2
theorem OK : ∀(n:Nat) (x0:Int) (s:aJ),n≤8→Rd c s→Ok (fun z=>Rd c z.2.1) (oj x0 (8 - (n:Int)) s)
 | 0,x0,s,_,h=>by
  rw[u9,aD (by omega)]
  exact Ok.one h
 | n+1,x0,s,hn,h=>by
  rw[u9,aI (by omega)]
  refine Ok.bnd (ue hc h) fun z hz => ?_
  rw[wr (by omega) (by omega),show 8 - ((n+1:Nat):Int)+1=8 - (n:Int) by omega]
  exact OK n _ _ (by omega) hz.2
theorem ZO {s:aJ} (h:Rd c s):Ok (fun z=>Rd c z.2.1) (zM s):=by
 rw[Lh]
 exact OK hc 8 0 s (Nat.le_refl _) h
theorem ZP {a b:Int} {s:aJ} (h:Rd c s) (hab:0≤a∧a≤b∧b≤1000000):Ok (fun z=>Rd c z.2.1) (zN a b s):=by
 rw[Li]
 refine Ok.bnd (rt hc h (by decide)) fun z hz=>Ok.ite (fun _=>Ok.one hz.2) fun _=>Ok.ite (fun _=>Ok.one hz.2) fun _=>Ok.ite (fun _=>Ok.one hz.2) fun _=>Ok.bnd (ZO hc hz.2) fun y hy => ?_
 refine Ok.nz ?_ (Ok.one hy)
 rw[wr (n:=b - a) (by omega) (by omega),wr (n:=b - a+1) (by omega) (by omega)]
 have:IntKind.u64.wrap (b - a+1)=b - a+1:=by
  show(b - a+1) % 18446744073709551616=_
  omega
 rw[this]
 omega
theorem Wc {a b:Int} {s:aJ} (h:Rd c s) (hab:0≤a∧a≤b∧b≤1000000):Ok (fun z=>Rd c z.2.1) (v8 a b s):=by
 rw[No]
 refine Ok.bnd (Jb hc h (by decide)) fun z hz=>Ok.ite (fun _ => ?_) fun _ => ?_
 ·exact Ok.bnd (rt hc hz (by decide)) fun y hy=>Ok.inb hy.1 (Ok.one hy.2)
 ·exact Ok.bnd (ZP hc hz hab) fun y hy=>Ok.one hy
theorem ZQ {s:aJ} (h:Rd c s):Ok (fun z=>Rd c z.2.1) (p8 s):=by
 rw[Lj]
 refine Ok.bnd (OJ hc h) fun z hz=>Ok.bnd (OJ hc hz.2) fun y hy=>Ok.bnd (Jb hc hy.2 (by decide)) fun w hw=>Ok.ite (fun _ => ?_) fun _=>Ok.one hw
 exact Ok.bnd (Wc hc hw (by decide)) fun v hv=>Ok.one hv
end
theorem Qr (p:cl):Ok (fun z=>z.1.1.size≤10) (cQ p):=by
 refine⟨_,ox p,?_⟩
 show(if bT p.1=true then ba (mA p) else ba []).size≤10
 split
 ·rename_i h
  rw[aQ]
  have:=DM h
  omega
 ·rw[aQ]; decide
theorem Wd {n:Int} (h0:0≤n) (h1:n≤100):Ok (fun z=>z.1.1.size≤20) (cf n):=⟨_,CI (by omega) (by omega),qr (by omega) (by omega)⟩
theorem T3 {k:Int} (h0:0≤k) (h1:k≤11):Ok (fun z=>z.1.1.size≤2) (lA k):=by
 refine⟨_,tU h0 h1,?_⟩
 show(ba (eJ k)).size≤2
 rw[aQ]
 exact DG k
theorem We {a:UInt8}:(⟨#[a]⟩:aa_).size=1:=rfl
theorem RD {a b d:UInt8}:(⟨#[a,b,d]⟩:aa_).size=3:=rfl
theorem Ok.inbL {β:Type} {Q:β→Prop} {l:List aa_} {i n:Int} {k:Option β} (d:aa_) (h0:0≤i) (h1:i < n) (hl:n=(l.length:Int)) (hs : ∀ x∈l,x.size≤20) (hd:d.size≤20) (hk:(l.getD i.toNat d).size≤20→Ok Q k):Ok Q (Abs.inb l i k) :=
 Ok.inb ⟨h0,by omega⟩ (hk (Wb hs _ _ hd))
theorem RE {β:Type} {Q:β→Prop} {p:cl} {f:(aa_×Unit)×Unit→Option β} (k : ∀ z,z.1.1.size≤10→Ok Q (f z)):Ok Q ((cQ p).bind f):=Ok.bnd (Qr p) k
theorem HO {β:Type} {Q:β→Prop} {n:Int} {f:(aa_×Unit)×Unit→Option β} (h0:0≤n) (h1:n≤100) (k : ∀ z,z.1.1.size≤20→Ok Q (f z)):Ok Q ((cf n).bind f):=Ok.bnd (Wd h0 h1) k
theorem aa1 {β:Type} {Q:β→Prop} {n:Int} {f:(aa_×Unit)×Unit→Option β} (h0:0≤n) (h1:n≤11) (k : ∀ z,z.1.1.size≤2→Ok Q (f z)):Ok Q ((lA n).bind f):=Ok.bnd (T3 h0 h1) k
theorem ZR {β:Type} {Q:β→Prop} {n:Int} {f:(aa_×Unit)×Unit→Option β} (h0:0≤n) (h1:n < 11) (k : ∀ z,z.1.1.size≤2→Ok Q (f z)):Ok Q ((lA (ha_ hb_ (1+n))).bind f):=by
 rw[wr (by omega) (by omega)]
 exact aa1 (by omega) (by omega) k
section
variable {c:List Int} (hc:KP c) {β:Type} {Q:β→Prop} {s:aJ}
include hc
theorem ru {n:Int} {f:(Int×Unit)×aJ×Unit→Option β} (h:Rd c s) (hn:1≤n) (k : ∀ z,0≤z.1.1→z.1.1 < n→Rd c z.2.1→Ok Q (f z)):Ok Q ((az n s).bind f):=Ok.bnd (rt hc h hn) fun z hz=>k z hz.1.1 hz.1.2 hz.2
theorem zg {n:Int} {f:(Bool×Unit)×aJ×Unit→Option β} (h:Rd c s) (hn:1≤n) (k : ∀ z,Rd c z.2.1→Ok Q (f z)):Ok Q ((bZ n s).bind f):=Ok.bnd (Jb hc h hn) k
theorem AF {f:(ah×Unit)×aJ×Unit→Option β} (h:Rd c s) (k : ∀ z,bT z.1.1=true→Rd c z.2.1→Ok Q (f z)):Ok Q ((bH s).bind f):=Ok.bnd (OJ hc h) fun z hz=>k z hz.1 hz.2
theorem aa2 {f:(am×Unit)×aJ×Unit→Option β} (h:Rd c s) (k : ∀ z,Rd c z.2.1→Ok Q (f z)):Ok Q ((p8 s).bind f):=Ok.bnd (ZQ hc h) k
theorem ZS {m q:Nat} {f:(aa_×Unit)×aJ×Unit→Option β} (ih : ∀ {s:aJ},Rd c s→Ok (fun y=>y.1.1.size≤100*q∧Rd c y.2.1) (bu (m:Int) s)) (h:Rd c s) (k : ∀ z,z.1.1.size≤100*q→Rd c z.2.1→Ok Q (f z)):Ok Q ((bu (m:Int) s).bind f):=Ok.bnd (ih h) fun z hz=>k z hz.1 hz.2
end
set_option maxHeartbeats 4000000 in
theorem OL {c:List Int} (hc:KP c) : ∀(n:Nat) {s:aJ},n≤3→Rd c s→Ok (fun y=>y.1.1.size≤100*4 ^ n∧Rd c y.2.1) (bu (n:Int) s)
 | n,s,hn,h=>by
  have h1:1≤4 ^ n:=Nat.one_le_pow _ _ (by decide)
  rw[IC]
  refine Ok.ite (fun _ => ?_) fun e => ?_
  ·generalize 4 ^ n=q at h1 ⊢
   repeat' first
    | refine ru hc (by assumption) (by decide) fun _ _ _ _ => ?_
    | refine AF hc (by assumption) fun _ _ _ => ?_
    | refine zg hc (by assumption) (by decide) fun _ _ => ?_
    | refine RE fun _ _ => ?_
    | refine HO (by omega) (by omega) fun _ _ => ?_
    | refine Ok.inbL ⟨#[]⟩ (by assumption) (by assumption) (by decide) (by decide) (by decide) fun _ => ?_
    | refine Ok.ite (fun _ => ?_) fun _ => ?_
    | refine Ok.one ⟨?_,by assumption⟩
   all_goals (try dsimp only)
   all_goals omega
  ·have hn0:n≠0:=fun k=>e (by subst k; rfl)
   obtain⟨m,rfl⟩ : ∃ m,n=m+1:=⟨n - 1,by omega⟩
   have hw:IntKind.i64.wrap (((m+1:Nat):Int) - 1)=(m:Int):=by rw[wr (by omega) (by omega)]; omega
   have ih:=fun {s:aJ} (h:Rd c s)=>OL hc m (s:=s) (by omega) h
   have hp:4 ^ (m+1)=4*4 ^ m:=by rw[Nat.pow_succ,Nat.mul_comm]
   have h2:1≤4 ^ m:=Nat.one_le_pow _ _ (by decide)
   have h64:4 ^ m≤64:=bn_ (fr_ (by decide) (by omega:m≤3)) (by decide)
   rw[hp]
   simp only[hw]
   generalize 4 ^ m=q at ih h2 h64 ⊢
   repeat' first
    | refine ru hc (by assumption) (by decide) fun _ _ _ _ => ?_
    | refine AF hc (by assumption) fun _ _ _ => ?_
    | refine zg hc (by assumption) (by decide) fun _ _ => ?_
    | refine aa2 hc (by assumption) fun _ _ => ?_
    | refine ZS hc ih (by assumption) fun _ _ _ => ?_
    | refine RE fun _ _ => ?_
    | refine HO (by omega) (by omega) fun _ _ => ?_
    | refine ZR (by assumption) (by assumption) fun _ _ => ?_
    | refine Ok.inbL ⟨#[]⟩ (by assumption) (by assumption) (by decide) (by decide) (by decide) fun _ => ?_
    | (refine Ok.cats (by simp only[size_append,We,RD]; omega) ?_; try dsimp only)
    | refine Ok.ite (fun _ => ?_) fun _ => ?_
    | refine Ok.one ⟨?_,by assumption⟩
   all_goals (try dsimp only)
   all_goals (try simp only[size_append,We,RD])
   all_goals omega
theorem ZT (c:List Int):Xp c=some ((decide (1048576 < (c.length:Int)),()),()):=by rw[Zu]
theorem aa3 {x:List Int} (h:x.length≤maxLen ∧ ∀ b∈x,BP (.int .u8) b) (hl : ¬1048576 < (x.length:Int)):KP x:=by
 refine⟨by omega,fun b hb => ?_⟩
 have:(decide (IntKind.u8.min≤b) && decide (b≤IntKind.u8.max))=true:=h.2 b hb
 simp only[ah_,ai_] at this
 have e1:IntKind.u8.min=0:=rfl
 have e2:IntKind.u8.max=255:=rfl
 omega
def r9 (x:ab):Bool:=decide (x.1=2) || decide (x.1=3)
def ci (f:List ab):List am:=(f.filter r9).map dn
def kt (ar:List am) (l:List aj):List aj:=l.filter fun c=>ar.any fun a=>dK a c.1
theorem Yd (r:ah):dK (r,r,()) r=true:=by
 unfold dK
 rw[ah_,bC,bC]
 exact⟨⟨cj_ _,cj_ _⟩,cj_ _,cj_ _⟩
theorem OM {ar:List am} {r:ah} (h : ∃ a∈ar,dK a r=true) : ∀ l:List aj,fM (kt ar l) r=fM l r
 | []=>rfl
 | c :: l=>by
  have ih:=OM h l
  unfold kt at ih ⊢
  rw[List.filter_cons]
  by_cases hc:(ar.any fun a=>dK a c.1)=true
  ·rw[af_ hc]
   unfold fM
   rw[ih]
  ·rw[ad_ hc,ih]
   have:c.1≠r:=by
    rintro rfl
    exact hc (eo_.2 h)
   conv=>rhs; unfold fM
   rw[ad_ this]
theorem Ye {ar:List am} {a:am} (h:a∈ar) (l:List aj):i6 (kt ar l) a=i6 l a:=by
 unfold i6 kt
 rw[List.filter_filter]
 congr 1
 refine List.filter_congr fun c _ => ?_
 cases hc:dK a c.1 with
 | false=>rfl
 | true =>
  rw[bv_]
  exact eo_.2 ⟨a,h,hc⟩
section
variable {f:List ab} {l:List aj}
theorem Yf {k:Int} (h0:0≤k) (h1:k < f.length):fb f k∈f:=by
 unfold fb
 rw[ao_,as_ (by omega)]
 exact dq_ _
theorem KQ {x:ab} (h:x∈f) (k:r9 x=true):dn x∈ci f:=List.mem_map_of_mem (List.mem_filter.2 ⟨h,k⟩)
theorem OO {ev ev':Int→ac} : ∀ ks:List Int,(∀ k∈ks,0≤k∧k < f.length)→(∀ k∈ks,ev' k=ev k)→jf ev' f (kt (ci f) l) ks=jf ev f l ks
 | [],_,_=>rfl
 | k :: ks,hb,he=>by
  unfold jf
  rw[OO ks (fun j hj=>hb j (ar_ _ hj)) (fun j hj=>he j (ar_ _ hj)),he k eq_]
  by_cases h3:(fb f k).1=3
  ·have hb:=hb k eq_
   rw[af_ h3,af_ h3,Ye (KQ (Yf hb.1 hb.2) (by unfold r9; rw[h3]; rfl))]
  ·rw[ad_ h3,ad_ h3]
theorem OP (A : ∀(i:Nat) (x:ab),f[i]? = some x→lq f i x) : ∀(n:Nat) (k:Int),0≤k→k < n→k < f.length→bV n f (kt (ci f) l) k=bV n f l k
 | 0,k,h0,h1,_=>by omega
 | n+1,k,h0,h1,h2=>by
  obtain⟨x,hx⟩ : ∃ y,f[k.toNat]? = some y:=⟨f[k.toNat]'(by omega),as_ _⟩
  have hst:=A _ _ hx
  have hnx:fb f k=x:=by
   unfold fb
   rw[ao_,hx]
   rfl
  have hm:x∈f:=List.mem_of_getElem? hx
  have hb : ∀ j∈x.2.2.2.2.2.1,0≤j∧j < f.length:=fun j hj=>by
   have:=hst.2 j hj
   omega
  have hk : ∀ j∈x.2.2.2.2.2.1,bV n f (kt (ci f) l) j=bV n f l j:=fun j hj=>by
   have:=hst.2 j hj
   exact OP A n j this.1 (by omega) (by omega)
  have h00:bV n f (kt (ci f) l) 0=bV n f l 0:=by
   cases n with
   | zero=>rfl
   | succ n=>exact OP A (n+1) 0 (by omega) (by omega) (by omega)
  have hkid : ∀ i:Nat,bV n f (kt (ci f) l) (x.2.2.2.2.2.1.getD i 0)=bV n f l (x.2.2.2.2.2.1.getD i 0):=fun i=>by
   rw[ao_]
   by_cases e:i < x.2.2.2.2.2.1.length
   ·rw[as_ e]
    exact hk _ (dq_ e)
   ·rw[cd_ (by omega)]
    exact h00
  unfold bV
  simp only[hnx,hkid]
  have hargs:=OO (l:=l) (ev:=bV n f l) (ev':=bV n f (kt (ci f) l)) _ hb hk
  rw[hargs]
  by_cases k2:x.1=2
  ·rw[OM ⟨_,KQ hm (by unfold r9; rw[k2]; rfl),?_⟩]
   unfold dn
   rw[af_ k2]
   exact Yd _
  ·rw[ad_ k2,ad_ k2]
end
theorem OQ : ∀ {l:List ah} {o:Option ah},(l.Pairwise fun a b=>jE a b=true)→(∀ a,o=some a → ∀ b∈l,jE a b=true)→s9 o l=true
 | [],o,_,_=>by cases o <;> rfl
 | b :: l,o,h,ho=>by
  have h':=List.pairwise_cons.1 h
  rw[Kv,OQ (o:=some b) h'.2 (fun a e=>by cases e; exact h'.1),fd_]
  cases o with
  | none=>rfl
  | some a=>exact ho a rfl b eq_
theorem OS {f:List ab} {l:List aj} (h:fg f=true):fN f (kt (ci f) l)=fN f l:=by
 have hb:cq (f.length:Int) 1 60=true:=by
  unfold fg at h
  simp only[ah_] at h
  exact h.1
 have:=bC.1 hb
 unfold fN
 rw[OP (kV h) f.length _ (by omega) (by omega) (by omega)]
def jH (d:ap):Bool:=d.all dw && decide (bL 0 d≤1000000000000000)
theorem Wf {d:ap} (hne:d≠[]) (h:d.length=1∨d.head? ≠ some 48):kp d=d.all dw:=by
 have hl:=ew_.2 hne
 unfold kp
 rw[bd_ (show 1≤d.length by omega),fd_]
 rcases h with h | h
 ·rw[bd_ h]; simp
 ·rw[be_ h]; simp
theorem Wg {d:ap} (hne:d≠[]) (h:d.length=1∨d.head? ≠ some 48):(cR d 16 && decide (bL 0 d≤1000000000000000))=jH d:=by
 unfold cR jH
 rw[Wf hne h]
 cases ha:d.all dw with
 | false=>simp
 | true =>
  simp only[bv_]
  by_cases hv:bL 0 d≤1000000000000000
  ·have hd:=(Ro d (by rw[Wf hne h]; exact ha)).1
   have:=TS hv
   rw[hd] at this
   rw[bd_ this]
   rfl
  ·rw[be_ hv,gj_]
theorem abH {d:ap} (h:cR d 16=true):bL 0 d < 10000000000000000:=by
 unfold cR kp at h
 simp only[ah_,ai_] at h
 have:=DB d 0 h.1.1.1
 have h2:10 ^ d.length≤10 ^ 16:=fr_ (by decide) h.2
 omega
theorem Yg (n:Int):aA (vN n)=cq n (-1000000000000000) 1000000000000000:=by
 unfold aA vN
 simp
def rx (b:Bool) (n:Nat):Int:=if b=true then -(n:Int) else n
theorem OT {b:Bool} {n:Nat}:aA (vN (rx b n))=decide (n≤1000000000000000):=by
 rw[Yg]
 unfold rx cq
 rw[bw_,ai_,ai_]
 cases b <;> simp <;> omega
theorem Wh {d:ap} {b:Bool}:((dc (ba d) 16).bind fun z4=>(if b=true then(if z4.1.2.1=true then((ej (1,(ha_ hb_ (0 - z4.1.1)),(⟨#[]⟩:aa_),())).bind fun z5=>(some (((1,(ha_ hb_ (0 - z4.1.1)),(⟨#[]⟩:aa_),()),z5.1.1,()),(())))) else(some (((1,(ha_ hb_ (0 - z4.1.1)),(⟨#[]⟩:aa_),()),false,()),(())))) else(if z4.1.2.1=true then((ej (1,z4.1.1,(⟨#[]⟩:aa_),())).bind fun z6=>(some (((1,z4.1.1,(⟨#[]⟩:aa_),()),z6.1.1,()),(())))) else(some (((1,z4.1.1,(⟨#[]⟩:aa_),()),false,()),(()))))))
  = (some ((vN (rx b (if cR d 16=true then bL 0 d else 0)),(cR d 16 && decide (bL 0 d≤1000000000000000)),()),()):Option ((ac×Bool×Unit)×Unit)):=by
 have e:=CY d (m:=16) (by decide)
 have e:dc (ba d) 16=_:=e
 rw[e]
 simp only[ab_]
 cases hr:cR d 16 with
 | false=>cases b <;> rfl
 | true =>
  have hlt:=abH hr
  simp only[ba_,bv_]
  cases b with
  | true =>
   simp only[ba_]
   rw[wr (by omega) (by omega)]
   have ev:((1,0 - ((bL 0 d:Nat):Int),(⟨#[]⟩:aa_),()):ac)=vN (rx true (bL 0 d)):=by
    unfold vN rx
    rw[af_ rfl,show(0:Int) - ((bL 0 d:Nat):Int) = -((bL 0 d:Nat):Int) by omega]
   rw[ev,fi (by show eS.size≤_; decide),OT]
   rfl
  | false =>
   simp only[aj_,aw_]
   have ev:((1,((bL 0 d:Nat):Int),(⟨#[]⟩:aa_),()):ac)=vN (rx false (bL 0 d)):=rfl
   rw[ev,fi (by show eS.size≤_; decide),OT]
   rfl
theorem T4 {b:Bool} : ∀(d:ap),d≠[]→d.length≤9223372036854775807 → ∃ v:ac,ki (ba d) b 0 0 (⟨#[]⟩:aa_)=some ((v,jH d,()),())∧(jH d=true→v=vN (rx b (bL 0 d)))
 | [],h,_=>bk_ rfl h
 | c :: l,h,hl=>by
  have iC:(c :: l:ap).length=1∨(c :: l:ap).head? ≠ some 48 → ∃ v:ac,(some ((vN (rx b (if cR (c :: l) 16=true then bL 0 (c :: l) else 0)),(cR (c :: l) 16 && decide (bL 0 (c :: l)≤1000000000000000)),()),()):Option ((ac×Bool×Unit)×Unit))=some ((v,jH (c :: l),()),())∧(jH (c :: l)=true→v=vN (rx b (bL 0 (c :: l)))):=by
   intro hc
   rw[Wg h hc]
   refine⟨_,rfl,fun ho => ?_⟩
   rw[←Wg h hc,ah_] at ho
   rw[af_ ho.1]
  rw[Hg,aQ]
  by_cases h1:1 < (c :: l:ap).length
  ·rw[aI (by omega),qv,Fw c 48 (n:=48) rfl]
   by_cases h48:c=48
   ·subst h48
    rw[aI rfl,show(1:Int)=((1:Nat):Int) from rfl,fW (by simp)]
    simp only[bz_,cu_]
    have hne:l≠[]:=by
     rintro rfl
     simp at h1
    have hll:l.length≤9223372036854775807:=by rw[ak_] at hl; omega
    obtain⟨v,e1,e2⟩:=T4 (b:=b) l hne hll
    have eo:jH (48 :: l)=jH l:=by
     unfold jH
     rfl
    rw[eo]
    exact⟨v,e1,e2⟩
   ·rw[aD h48,Wh]
    exact iC (.inr (by simpa using h48))
  ·rw[aD (by omega),Wh]
   exact iC (.inl (by simp only[ak_] at h1 ⊢; omega))
def OU (w:ap):Bool:=decide (w.head? = some 45)
def ja (w:ap):ap:=if w.head? = some 45 then w.drop 1 else w
def gl (w:ap):Bool:=decide (ja w≠[]) && jH (ja w)
def kZ (w:ap):Int:=rx (OU w) (bL 0 (ja w))
theorem C4 {w:ap} (hw:w≠[]) (hl:w.length≤9223372036854775807) : ∃ v:ac,Ch (ba w)=some ((v,gl w,()),())∧(gl w=true→v=vN (kZ w)):=by
 cases w with
 | nil=>exact bk_ rfl hw
 | cons c l =>
  rw[Nt,aQ,aI (by simp),qv,Fw c 45 (n:=45) rfl]
  by_cases hc:c=45
  ·subst hc
   have hm:ja (45 :: l)=l:=rfl
   have hg:OU (45 :: l)=true:=rfl
   have e0:(ag_ (ba l) == ag_ (⟨#[]⟩:aa_))=decide (l=[]):=dG (b:=[])
   rw[aI rfl,show(1:Int)=((1:Nat):Int) from rfl,fW (by simp)]
   simp only[bz_,cu_]
   rw[e0]
   unfold gl kZ
   rw[hm,hg]
   by_cases hn:l=[]
   ·rw[aI hn]
    subst hn
    exact⟨_,rfl,fun h=>by cases h⟩
   ·rw[aD hn]
    obtain⟨v,e1,e2⟩:=T4 (b:=true) l hn (by rw[ak_] at hl; omega)
    refine⟨v,?_,fun h => ?_⟩
    ·simpa[hn] using e1
    ·rw[ah_] at h
     exact e2 h.2
  ·have hm:ja (c :: l)=c :: l:=ad_ (by simpa using hc)
   have hg:OU (c :: l)=false:=be_ (by simpa using hc)
   have e0:(ag_ (ba (c :: l)) == ag_ (⟨#[]⟩:aa_))=decide (c :: l=[]):=dG (b:=[])
   rw[aD hc,e0,aD (by simp)]
   unfold gl kZ
   rw[hm,hg]
   obtain⟨v,e1,e2⟩:=T4 (b:=false) (c :: l) (by simp) hl
   refine⟨v,?_,fun h => ?_⟩
   ·simpa[hc] using e1
   ·rw[ah_] at h
    exact e2 h.2
theorem aa4:(fun c=>([48,49,50,51,52,53,54,55,56,57]:ap).contains c)=dw:=funext fun c=>CO (p:=fun c=>([48,49,50,51,52,53,54,55,56,57]:ap).contains c=dw c) (by decide +kernel) c
theorem HP {p:UInt8→Bool} : ∀ {l:ap} {x:UInt8} {t:ap},l.dropWhile p=x :: t→p x=false
 | c :: l,x,t,h=>by
  cases hc:p c with
  | true =>
   rw[fp_ hc] at h
   exact HP h
  | false =>
   rw[dg_ (by rw[hc]; decide)] at h
   cases h
   exact hc
theorem wS {p:UInt8→Bool} : ∀ {l:ap},l.dropWhile p=[]↔l.all p=true
 | []=>by simp
 | c :: l=>by
  cases hc:p c with
  | true=>rw[fp_ hc,wS]; simp[hc]
  | false=>rw[dg_ (by rw[hc]; decide)]; simp[hc]
theorem Yh (d:ap):(Lib.trimS d [48,49,50,51,52,53,54,55,56,57]=[])↔d.all dw=true:=by
 unfold Lib.trimS Lib.trimLeftS Lib.trimRightS
 rw[aa4,wS]
 constructor
 ·intro h
  cases hr:d.reverse.dropWhile dw with
  | nil =>
   rw[wS] at hr
   simpa using hr
  | cons x t =>
   have hx:=HP hr
   rw[hr] at h
   simp only[List.all_reverse,do_,ah_] at h
   rw[hx] at h
   cases h.1
 ·intro h
  have:d.reverse.dropWhile dw=[]:=wS.2 (by simpa using h)
  rw[this]
  rfl
theorem OV {w:ap} (hl:w.length≤1000000):Cj (ba w)=some (((decide (ja w≠[]) && (ja w).all dw),()),()):=by
 have hp:mh (ba w) (⟨#[45]⟩:aa_)=some ((ba (ja w),()),()):=by
  rw[yx,tL,show(⟨#[45]⟩:aa_)=ba [45] from rfl,xr _ _ (by omega)]
  simp only[ab_,Fu]
  unfold ja
  by_cases h:w.head? = some 45
  ·obtain⟨t,rfl⟩:=kH h
   rw[aI h,af_ h,aQ,fW (by simp)]
   rfl
  ·rw[aD h,ad_ h]
   rfl
 rw[Nv,hp]
 simp only[ab_]
 have e0 : ∀ x:ap,(ag_ (ba x) == ag_ (⟨#[]⟩:aa_))=decide (x=[]):=fun x=>dG (b:=[])
 have hm:(ja w).length≤w.length:=by
  unfold ja
  split <;> simp
 rw[e0]
 by_cases hn:ja w=[]
 ·simp[hn]
 ·have ht:uS (ba (ja w)) (⟨#[48,49,50,51,52,53,54,55,56,57]⟩:aa_)=some ((ba (Lib.trimS (ja w) [48,49,50,51,52,53,54,55,56,57]),()),()):=by
   rw[G8]
   show(if uB (ba [48,49,50,51,52,53,54,55,56,57])=true∧(ba (ja w)).size≤9223372036854775807 then some (((⟨(Lib.trimS (lb (ba (ja w))) (lb (ba [48,49,50,51,52,53,54,55,56,57]))).toArray⟩:aa_),()),()) else none)=_
   rw[af_ ⟨by decide +kernel,by rw[aQ]; omega⟩,dy,dy]
  rw[ht]
  simp only[ab_,hn,cr_,bm_,ba_,e0,ne_eq,not_false_eq_true,ch_,bv_]
  congr 3
  rw[bw_,ai_]
  exact Yh _
theorem OW : ∀(l:ap) (a u:Nat),l.all dw=true→fg_ 18446744073709551615 a l = .ok u→u=bL a l
 | [],a,u,_,h=>by
  cases h
  rfl
 | c :: l,a,u,h,hp=>by
  simp only[do_,ah_] at h
  have hd:48≤c.toNat∧c.toNat≤57:=by simpa[dw] using h.1
  unfold fg_ at hp
  rw[af_ hd] at hp
  split at hp
  ·cases hp
  ·split at hp
   ·cases hp
   ·exact OW l _ u h.2 hp
theorem KR {w:ap} (hne:ja w≠[]) (hd:(ja w).all dw=true) (h:(ct w).2=true):(ct w).1=kZ w:=by
 unfold ct at h ⊢
 cases hp:dz_ 64 w with
 | range=>rw[hp] at h; cases h
 | ok v =>
  simp only
  cases w with
  | nil=>exact bk_ rfl hne
  | cons c l =>
   unfold dz_ at hp
   simp only at hp
   unfold kZ
   by_cases hc:c=45
   ·subst hc
    have hm:ja (45 :: l)=l:=rfl
    have hg:OU (45 :: l)=true:=rfl
    rw[hm] at hne hd
    have h45:(45:UInt8).toNat=45:=rfl
    rw[af_ (.inr h45)] at hp
    unfold gl_ at hp
    rw[ad_ hne] at hp
    cases hu:fg_ (2 ^ 64 - 1) 0 l with
    | range=>rw[hu] at hp; cases hp
    | ok u =>
     rw[hu] at hp
     have:=OW l 0 u hd hu
     simp only at hp
     split at hp
     ·cases hp
     ·split at hp
      ·cases hp
      ·cases hp
       rw[hm,hg,this]
       rfl
    | _=>rw[hu] at hp; cases hp
   ·have hm:ja (c :: l)=c :: l:=ad_ (by simpa using hc)
    have hg:OU (c :: l)=false:=be_ (by simpa using hc)
    rw[hm] at hd
    have hcd:48≤c.toNat∧c.toNat≤57:=by
     simp only[do_,ah_] at hd
     simpa[dw] using hd.1
    rw[ad_ (by omega)] at hp
    unfold gl_ at hp
    rw[ad_ (by simp)] at hp
    cases hu:fg_ (2 ^ 64 - 1) 0 (c :: l) with
    | range=>rw[hu] at hp; cases hp
    | ok u =>
     rw[hu] at hp
     have:=OW (c :: l) 0 u hd hu
     simp only at hp
     split at hp
     ·cases hp
     ·split at hp
      ·cases hp
      ·rw[ad_ (by omega)] at hp
       cases hp
       rw[hm,hg,this]
       rfl
    | _=>rw[hu] at hp; cases hp
 | _=>rw[hp] at h; cases h
theorem Qs {w:ap} (h:gl w=true):ct w=(kZ w,true):=by
 unfold gl jH at h
 simp only[ah_,ai_] at h
 obtain⟨hne,hd,hv⟩:=h
 have hp2:(ct w).2=true:=by
  cases w with
  | nil=>exact bk_ rfl hne
  | cons c l =>
   by_cases hc:c=45
   ·subst hc
    have hm:ja (45 :: l)=l:=rfl
    rw[hm] at hne hd hv
    have h45:(45:UInt8).toNat=45:=rfl
    have hu:fg_ (2 ^ 64 - 1) 0 l = .ok (bL 0 l):=L0 l 0 hd (by omega)
    have:dz_ 64 (45 :: l) = .ok (-((bL 0 l:Nat):Int)):=by
     unfold dz_
     simp only
     rw[af_ (.inr h45)]
     unfold gl_
     rw[ad_ hne,hu]
     simp only
     rw[ad_ (by omega),ad_ (by omega)]
     rfl
    unfold ct
    rw[this]
   ·have hm:ja (c :: l)=c :: l:=ad_ (by simpa using hc)
    rw[hm] at hd hv
    have hcd:48≤c.toNat∧c.toNat≤57:=by
     have hd':=hd
     simp only[do_,ah_] at hd'
     simpa[dw] using hd'.1
    have hu:fg_ (2 ^ 64 - 1) 0 (c :: l) = .ok (bL 0 (c :: l)):=L0 (c :: l) 0 hd (by omega)
    have:dz_ 64 (c :: l) = .ok ((bL 0 (c :: l):Nat):Int):=by
     unfold dz_
     simp only
     rw[ad_ (by omega)]
     unfold gl_
     rw[ad_ (by simp),hu]
     simp only
     rw[ad_ (by omega),ad_ (by omega),ad_ (by omega)]
    unfold ct
    rw[this]
 exact Prod.ext (KR hne hd hp2) hp2
theorem aa5 {w:ap} (h:gl w=false) (h1:(ct w).2=true) (h2:(decide (ja w≠[]) && (ja w).all dw)=true):aA (vN (ct w).1)=false:=by
 simp only[ah_,ai_] at h2
 rw[KR h2.1 h2.2 h1]
 unfold kZ
 rw[OT]
 unfold gl jH at h
 rw[bd_ h2.1,h2.2] at h
 simpa using h
theorem HQ {w:ap} (h:gl w=true) : -1000000000000000≤kZ w∧kZ w≤1000000000000000:=by
 unfold gl jH at h
 simp only[ah_,ai_] at h
 unfold kZ rx
 split <;> omega
theorem AG {x:aa_} (hx:x.size≤9223372036854775807) : ∃(t:ap) (b:Bool),zT x=some ((ba t,b,()),())∧dR x=some ((ba t,b,()),())∧t.length≤200:=by
 obtain⟨w,rfl⟩ : ∃ s,x=ba s:=⟨lb x,(ec x).symm⟩
 rw[P7,xn,nZ hx,Ak hx]
 simp only[ab_]
 have e0 : ∀ x:ap,(ag_ (ba x) == ag_ (⟨#[]⟩:aa_))=decide (x=[]):=fun x=>dG (b:=[])
 rw[e0]
 cases hp:(plain (ba w) && decide (((ba w).size:Int)≤200)) with
 | false =>
  have hw:w≠[]:=by
   rintro rfl
   exact bk_ hp (by decide)
  rw[be_ hw]
  exact⟨[],false,rfl,rfl,by simp⟩
 | true =>
  have hp':=hp
  rw[ah_,ai_,aQ] at hp'
  have hl:w.length≤200:=by omega
  simp only[bc_,aj_,aw_]
  by_cases hw:w=[]
  ·subst hw
   exact⟨[],true,rfl,rfl,by simp⟩
  ·rw[aD hw,aD hw]
   have hcut:cx (ba w) (⟨#[61]⟩:aa_)=_:=sJ w [61] (by omega)
   rw[hcut]
   simp only[ab_,Fu]
   cases w with
   | nil=>exact bk_ rfl hw
   | cons c l =>
    rw[qv,Fw c 61 (n:=61) rfl]
    by_cases hc:c=61
    ·subst hc
     have hll:l.length≤200:=by rw[ak_] at hl; omega
     simp only[db_,ch_,ba_,ac_,bz_,cu_]
     rw[show(1:Int)=((1:Nat):Int) from rfl,fW (by simp)]
     simp only[bz_,cu_]
     obtain⟨f,b,r1,r2,r3,r4⟩:=L1 (x:=ba l) (by rw[aQ]; omega)
     rw[r1,r2]
     simp only[ab_]
     have hsm:f.length≤10000000∧(∀ x∈f,x.2.2.1.2.2.1.size≤9223372036854775807) ∧ ∀ x∈f,x.2.2.2.2.2.1.length≤10000000:=by
      cases b with
      | false=>rw[r4 rfl]; simp
      | true =>
       have ho:=r3 rfl
       have hs:dz f=true:=by
        unfold dz
        rw[ck_]
        intro y hy
        obtain⟨i,hi⟩:=List.getElem?_of_mem hy
        exact(kV ho i y hi).1
       have ho':=ho
       unfold fg at ho'
       rw[ah_] at ho'
       have:=bC.1 ho'.1
       exact⟨by omega,OF (vx hs),OG (vx hs)⟩
     obtain⟨t,t1,t2,t3⟩:=Ja hsm.1 hsm.2.1 hsm.2.2
     rw[t2,Nu,t1]
     simp only[ab_]
     rw[show(⟨#[61]⟩:aa_)=ba [61] from rfl,bN (by simp only[ac_]; omega),e0,aQ]
     cases b with
     | false =>
      simp only[bm_,ba_]
      refine⟨[],false,?_,rfl,by simp⟩
      by_cases ht:t=[] <;> simp[ht]
     | true =>
      simp only[bc_,aj_,aw_]
      by_cases ht:t=[]
      ·refine⟨[],false,?_,?_,by simp⟩ <;> simp[ht]
      ·rw[wr (by omega) (by omega)]
       by_cases h2:t.length < 200
       ·refine⟨61 :: t,true,?_,?_,by rw[ak_]; omega⟩
        ·rw[be_ ht,bd_ (show(t.length:Int) < 200 by omega)]
         rfl
        ·rw[aD ht,aD (by omega),bN (by simp only[ac_]; omega)]
         rfl
       ·refine⟨[],false,?_,?_,by simp⟩
        ·rw[be_ ht,be_ (show ¬(t.length:Int) < 200 by omega)]
         rfl
        ·rw[aD ht,aI (by omega)]
    ·have hnc : ¬(some c=some (61:UInt8)):=by simpa using hc
     simp only[db_,hnc,cr_,aj_,aw_,hc]
     generalize hwd:(c :: l:ap)=w at *
     have hsz:(ba w).size=w.length:=aQ w
     rw[xv (by omega)]
     obtain⟨v,n1,n2⟩:=C4 hw (by omega)
     rw[n1,OV (by omega),oA (by omega),oz (by omega)]
     simp only[ab_,ik]
     rw[fj (by show eS.size≤_; decide)]
     simp only[ab_]
     have tail : ∃(t:ap) (b:Bool),(if(bJ w).2=true then(some ((ba w,true,()),(())):Option ((aa_×Bool×Unit)×Unit)) else(if((ay_ (ba w):Int) == 200)=true then(some (((⟨#[]⟩:aa_),false,()),(()))) else(cats (⟨#[39]⟩:aa_) (ba w) fun y2=>(some ((y2,true,()),(()))))))=some ((ba t,b,()),())
       ∧ (if(!(bJ w).2)=true then((dY (2,0,ba w,())).bind fun z7=>(if(decide ((ay_ z7.1.1:Int) > 200))=true then(some (((⟨#[]⟩:aa_),false,()),(()))) else(some ((z7.1.1,true,()),(()))))) else((dY (bJ w).1).bind fun z8=>(if(decide ((ay_ z8.1.1:Int) > 200))=true then(some (((⟨#[]⟩:aa_),false,()),(()))) else(some ((z8.1.1,true,()),(()))))))=some ((ba t,b,()),())∧t.length≤200:=by
      cases hr:(bJ w).2 with
      | true =>
       obtain⟨k1,k2⟩:=oT hr
       refine⟨w,true,rfl,?_,hl⟩
       simp only[bc_,aj_,aw_]
       rw[eP (ca k1),af_ k1,k2]
       simp only[ab_]
       rw[aD (by rw[hsz]; omega)]
      | false =>
       simp only[bm_,aj_,aw_,ba_]
       have hov:aA (2,0,ba w,())=true:=by
        unfold aA
        rw[af_ rfl]
        simp only[ch_,bv_]
        exact hp
       have htx:bO (2,0,ba w,())=ba (39 :: w):=by
        show(⟨#[39]⟩:aa_)++ba w=_
        rw[show(⟨#[39]⟩:aa_)=ba [39] from rfl,lu]
        rfl
       rw[eP (ca hov),af_ hov,htx,TD (by omega),show(⟨#[39]⟩:aa_)=ba [39] from rfl,lu]
       simp only[ab_,aQ,ak_]
       by_cases h2:w.length=200
       ·rw[af_ (by simp[h2]),aI (by omega)]
        exact⟨[],false,rfl,rfl,by simp⟩
       ·rw[ad_ (by simp only[beq_iff_eq]; omega),aD (by omega)]
        exact⟨39 :: w,true,rfl,rfl,by rw[ak_]; omega⟩
     cases ho:gl w with
     | true =>
      have hpv:=Qs ho
      have hrg:=HQ ho
      have hdg:(decide (ja w≠[]) && (ja w).all dw)=true:=by
       unfold gl jH at ho
       simp only[ah_] at ho ⊢
       exact⟨ho.1,ho.2.1⟩
      have hok:aA (vN (kZ w))=true:=by
       rw[Yg]
       exact bC.2 hrg
      have hit:=qr (n:=kZ w) (by omega) (by omega)
      rw[n2 ho,hpv,hdg]
      simp only[ba_,hok]
      rw[xq (by omega) (by omega),eP (ca hok),af_ hok]
      refine⟨lb (cY (kZ w)),true,?_,?_,by rw[iA]; omega⟩
      ·rw[ec]; rfl
      ·rw[ec]; rfl
     | false =>
      obtain⟨t,b,s1,s2,s3⟩:=tail
      refine⟨t,b,?_,?_,s3⟩
      ·cases h1:(ct w).2 with
       | false=>simpa using s1
       | true =>
        cases h2:(decide (ja w≠[]) && (ja w).all dw) with
        | false=>simpa using s1
        | true =>
         rw[aa5 ho h1 h2]
         simpa using s1
      ·simpa using s2
end Go.Proofs.YthbkdfcmjmmpgaaGreatDoor.Abs
