/- Plain laws: places that are read. -/
import Derived.Test.YtipnjpfdlolhmaaGreatDoorZM5
import Derived.Lib.IndexBytes
set_option linter.unusedVariables false
set_option linter.unusedSimpArgs false
set_option linter.unusedSectionVars false
open Bool renaming and_eq_false_iff→gb_,and_eq_true→Z8,eq_false_iff→bt_,eq_iff_iff→ci_,false_eq_true→Z5,not_false→as_,not_true→aj_,true_and→bj_
open ByteArray renaming toList→Z6
open Go.IntKind renaming i64→gu_,wrap→gt_
open Go.Lib renaming decDigits→am_,parseIntB→dp_,parseUintB→gd_,parseUintM→ew_
open Int renaming toNat_natCast→dd_,toNat_of_nonneg→cd_
open List renaming all_cons→bp_,append_nil→bz_,cons_append→ck_,dropWhile_cons_of_neg→au_,dropWhile_cons_of_pos→fb_,drop_append→gf_,drop_left'→ft_,drop_succ_cons→bh_,drop_zero→ce_,find?_cons→cy_,getD→aw_,head?_cons→cr_,isPrefixOf_iff_prefix→dg_,length_append→Z7,length_cons→aa_,length_drop→dv_,length_singleton→Z4,length→ac_,mem_cons→bd_,prefix_iff_eq_take→gs_,takeWhile_cons_of_neg→em_,take_append→fg_,take_left'→gm_
open List.cons renaming inj→fn_
open Nat renaming le_refl→ag_
open Option renaming bind_some→Z1,map_eq_some_iff→ct_
open Option.some renaming injEq→ap_,inj→bl_
open _root_ renaming ByteArray→Z0,absurd→ay_,beq_iff_eq→bk_,decide_eq_false→bm_,decide_eq_true_eq→Z9,decide_eq_true→ba_,decide_true→bv_,if_false→ad_,if_neg→Z2,if_pos→Z3,if_true→al_
namespace Go.Proofs.YtipnjpfdlolhmaaGreatDoor.Abs
open Go
theorem wa {w:ag} (hw:w.length≤281474976710656):iT (ba w) 10 64=some (((cu w).1,(cu w).2,()),()):=by
 rw[zP]
 show(if(ba w).size≤281474976710656∧(10:Int)=10∧(64:Int)=64 then some (((cu (lb (ba w))).1,(cu (lb (ba w))).2,()),()) else none)=_
 rw[Z3 ⟨by rw[az]; exact hw,rfl,rfl⟩,dC]
theorem W1 : ∀ r:Fin 10,(cu [UInt8.ofNat (48+r.val)]).1=(r.val:Int):=by decide +kernel
theorem W2 : ∀ r:Fin 100,(cu [UInt8.ofNat (48+r.val / 10),UInt8.ofNat (48+r.val % 10)]).1=(r.val:Int):=by decide +kernel
theorem Th {r:Nat} (h:r < 100):(cu (am_ r)).1=(r:Int):=by
 by_cases h1:r < 10
 ·rw[Lib.decDigits_one h1]
  exact W1 ⟨r,h1⟩
 ·rw[Lib.decDigits_two h1 h]
  exact W2 ⟨r,h⟩
theorem Yi:(fun c=>([65,66,67,68,69,70,71,72,73,74,75,76,77,78,79,80,81,82,83,84,85,86,87,88,89,90]:ag).contains c)=eL:=funext fun c=>pw (p:=fun c=>([65,66,67,68,69,70,71,72,73,74,75,76,77,78,79,80,81,82,83,84,85,86,87,88,89,90]:ag).contains c=eL c) (by decide +kernel) c
def ct (w:ag):Bool×ag:=(([36]:ag).isPrefixOf w,if([36]:ag).isPrefixOf w=true then w.drop 1 else w)
theorem Iq (w:ag):py (ct w).1++(ct w).2=w:=by
 unfold ct py
 cases w with
 | nil=>rfl
 | cons c l =>
  by_cases h:c=36
  ·subst h
   simp
  ·have:([36]:ag).isPrefixOf (c :: l)=false:=by rw[gW]; simp[h]
   simp[this]
theorem L1 {b:Bool} {w:ag} (h:w.head? ≠ some 36):ct (py b++w)=(b,w):=by
 unfold ct py
 cases b with
 | true=>simp
 | false =>
  cases w with
  | nil=>rfl
  | cons c l =>
   have h':c≠36:=fun e=>h (by rw[e]; rfl)
   have:([36]:ag).isPrefixOf (c :: l)=false:=by rw[gW]; simp[h']
   simp[this]
theorem L2 (w:ag):(ct w).2.length≤w.length:=by
 unfold ct
 split <;> simp
def pz (w:ag):aM:=((((kK ((ct w).2.takeWhile eL):Nat):Int),(cu (ct ((ct w).2.dropWhile eL)).2).1,()),(ct w).1,(ct ((ct w).2.dropWhile eL)).1,())
theorem Ir (p:UInt8→Bool) (l:ag):(l.dropWhile p).length≤l.length:=(Bh p l).2.2
theorem Yj {w:ag} (hw:w.length≤9223372036854775807):cD (ba w) (⟨#[36]⟩:Z0)=some ((ba (ct w).2,(ct w).1,()),()):=rx w [36] hw
theorem L3 {w:ag} (hw:w.length≤281474976710656) :
  ir (ba w)=some ((if aA (pz w).1=true∧fj (pz w)=w then pz w else p0,decide (aA (pz w).1=true∧fj (pz w)=w),()),()):=by
 have l1:=L2 w
 have l2:=Ir eL (ct w).2
 have l3:=L2 ((ct w).2.dropWhile eL)
 obtain⟨d1,d2,d3⟩:=Bh eL (ct w).2
 rw[JB,Yj (by omega)]
 simp only[Z1]
 rw[vZ _ _ (by decide +kernel),Yi]
 simp only[Z1,az]
 rw[wr (by omega) (by omega),show((ct w).2.length:Int) - (((ct w).2.dropWhile eL).length:Int)=(((ct w).2.length - ((ct w).2.dropWhile eL).length:Nat):Int) by omega,FL (by omega),d1,NV]
 simp only[Z1]
 rw[fB (by omega),d2,Yj (by omega)]
 simp only[Z1]
 rw[wa (by omega)]
 simp only[Z1,l5,nO]
 have e:pz w=((((kK ((ct w).2.takeWhile eL):Nat):Int),(cu (ct ((ct w).2.dropWhile eL)).2).1,()),(ct w).1,(ct ((ct w).2.dropWhile eL)).1,()):=rfl
 rw[←e]
 have e1:(((kK ((ct w).2.takeWhile eL):Nat):Int),(cu (ct ((ct w).2.dropWhile eL)).2).1,())=(pz w).1:=rfl
 rw[e1]
 cases hr:aA (pz w).1 with
 | false=>simp
 | true =>
  simp only[aj_,Z5,ad_,al_,dn,true_and]
  by_cases hp:fj (pz w)=w
  ·simp[hp]
  ·simp[hp]
theorem G4 : ∀ c:Fin 53,1≤c.val→(gJ c.val).all eL=true:=by decide +kernel
theorem Za {y:UInt8} (h:eL y=true):y≠36:=by
 rintro rfl
 exact ay_ h (by decide)
theorem Wr {y:UInt8} (h:dy y=true):y≠36∧eL y=false:=by
 refine⟨?_,?_⟩
 ·rintro rfl
  exact ay_ h (by decide)
 ·simp only[dy,eL,Z8,Z9,gb_,decide_eq_false_iff_not] at h ⊢
  omega
theorem FS (u:Nat) : ∃ y l,am_ u=y :: l∧dy y=true:=by
 have h:=qg u
 unfold jM at h
 simp only[Z8,Z9] at h
 cases hd:am_ u with
 | nil=>rw[hd] at h; simp at h
 | cons y l =>
  rw[hd] at h
  refine⟨y,l,rfl,?_⟩
  have:=h.1.1
  simp only[bp_,Z8] at this
  exact this.1
theorem W3 {c:Nat} (h1:1≤c) (h2:c≤52) (x:ag):(gJ c++x).head? ≠ some 36:=by
 have h:=G4 ⟨c,by omega⟩ h1
 have hl:=qj c
 simp only at h
 cases hc:gJ c with
 | nil=>rw[hc] at hl; simp at hl
 | cons y l =>
  rw[hc] at h
  simp only[bp_,Z8] at h
  intro e
  simp only[ck_,cr_,ap_] at e
  exact Za h.1 e
theorem L4 {c r:Nat} (h1:1≤c) (h2:c≤52) (fc fr:Bool):(ct (rX c r fc fr)).1=fc∧(ct (rX c r fc fr)).2.takeWhile eL=gJ c∧(ct ((ct (rX c r fc fr)).2.dropWhile eL)).1=fr∧(ct ((ct (rX c r fc fr)).2.dropWhile eL)).2=am_ r:=by
 unfold rX
 rw[L1 (W3 h1 h2 _)]
 have hu:=List.all_eq_true.1 (G4 ⟨c,by omega⟩ h1)
 simp only at hu ⊢
 obtain⟨y,l,hy,hd⟩:=FS r
 have hn : ∃ z m,py fr++am_ r=z :: m∧eL z=false:=by
  cases fr with
  | true=>exact⟨36,_,rfl,by decide⟩
  | false=>exact⟨y,l,hy,(Wr hd).2⟩
 obtain⟨z,m,hz,hzu⟩:=hn
 have ht:(py fr++am_ r).takeWhile eL=[]:=by rw[hz]; simp[hzu]
 have hdr:(py fr++am_ r).dropWhile eL=py fr++am_ r:=by rw[hz]; simp[hzu]
 rw[List.takeWhile_append_of_pos hu,List.dropWhile_append_of_pos hu,ht,hdr,bz_,L1 (by rw[hy]; simp only[cr_,ne_eq,ap_]; exact(Wr hd).1)]
 simp
theorem vj {p:aM} (h:aA p.1=true) : ∃(c r:Nat) (fc fr:Bool),p=(((c:Int),(r:Int),()),fc,fr,())∧1≤c∧c≤52∧1≤r∧r≤99:=by
 obtain⟨⟨c,r,u⟩,fc,fr,u'⟩:=p
 obtain⟨⟨h1,h2⟩,h3,h4⟩:=bK.1 h
 simp only at h1 h2 h3 h4
 refine⟨c.toNat,r.toNat,fc,fr,?_,by omega,by omega,by omega,by omega⟩
 rw[cd_ (by omega),cd_ (by omega)]
theorem W4 {p:aM} (h:aA p.1=true):pz (fj p)=p:=by
 obtain⟨c,r,fc,fr,rfl,h1,h2,h3,h4⟩:=vj h
 obtain⟨e1,e2,e3,e4⟩:=L4 (r:=r) h1 h2 fc fr
 show pz (rX c r fc fr)=_
 unfold pz
 rw[e1,e2,e3,e4,FR ⟨c,by omega⟩ h1,Th (by omega)]
def pA (fc:Bool) (ls w2:ag):aM×Bool :=
 if cW (ct w2).2 2=true∧aA (((kK ls:Nat):Int),((bF 0 (ct w2).2:Nat):Int),())=true then(((((kK ls:Nat):Int),((bF 0 (ct w2).2:Nat):Int),()),fc,(ct w2).1,()),true) else(p0,false)
def cO (w:ag):aM×Bool:=pA (ct w).1 ((ct w).2.takeWhile eL) ((ct w).2.dropWhile eL)
theorem Q1 {fc:Bool} {ls w2:ag} {f1:Bool} {w3:ag} (h:ct w2=(f1,w3)) :
  ((dk (ba w3) 2).bind fun z2=>(if(!z2.1.2.1)=true then(some ((((0,0,()),false,false,()),false,()),(()))) else((c7 (((kK ls:Nat):Int),z2.1.1,())).bind fun z3=>(if(!z3.1.1)=true then(some ((((0,0,()),false,false,()),false,()),(()))) else(some (((((((kK ls:Nat):Int),z2.1.1,()),fc,f1,()):aM),true,()),(())))))))=some (((pA fc ls w2).1,(pA fc ls w2).2,()),()):=by
 have e:=Bl w3 (m:=2) (by decide)
 have e:dk (ba w3) 2=_:=e
 rw[e]
 simp only[Z1,iz]
 unfold pA
 rw[h]
 cases hr:cW w3 2 with
 | false=>simp
 | true =>
  simp only[aj_,Z5,ad_,al_,true_and]
  cases ho:aA (((kK ls:Nat):Int),((bF 0 w3:Nat):Int),()) with
  | false=>simp
  | true=>simp
theorem ZA {fc:Bool} {w1 pre ys:ag} (h:w1=pre++ys) (hl:w1.length≤9223372036854775807) :
  (CF (ba w1) (pre.length:Int) fun y7=>((qa y7).bind fun z8=>(iJ (ba w1) (pre.length:Int) fun y8=>(if(decide ((ByteArray.size y8:Int) > 0))=true then(ex y8 0 fun y9=>(if(y9 == 36)=true then(iJ y8 1 fun y10=>((dk y10 2).bind fun z9=>(if(!z9.1.2.1)=true then(some ((((0,0,()),false,false,()),false,()),(()))) else((c7 (z8.1.1,z9.1.1,())).bind fun z10=>(if(!z10.1.1)=true then(some ((((0,0,()),false,false,()),false,()),(()))) else(some ((((z8.1.1,z9.1.1,()),fc,true,()),true,()),(())))))))) else((dk y8 2).bind fun z11=>(if(!z11.1.2.1)=true then(some ((((0,0,()),false,false,()),false,()),(()))) else((c7 (z8.1.1,z11.1.1,())).bind fun z12=>(if(!z12.1.1)=true then(some ((((0,0,()),false,false,()),false,()),(()))) else(some ((((z8.1.1,z11.1.1,()),fc,false,()),true,()),(()))))))))) else((dk y8 2).bind fun z13=>(if(!z13.1.2.1)=true then(some ((((0,0,()),false,false,()),false,()),(()))) else((c7 (z8.1.1,z13.1.1,())).bind fun z14=>(if(!z14.1.1)=true then(some ((((0,0,()),false,false,()),false,()),(()))) else(some ((((z8.1.1,z13.1.1,()),fc,false,()),true,()),(())))))))))))
   = (some (((pA fc pre ys).1,(pA fc pre ys).2,()),()):Option ((aM×Bool×Unit)×Unit)):=by
 subst h
 have hle:pre.length≤(pre++ys).length:=by simp
 rw[FL hle,gm_ rfl,NW]
 simp only[Z1]
 rw[fB hle,ft_ rfl,az]
 cases ys with
 | nil =>
  rw[aL (by simp)]
  exact Q1 rfl
 | cons y l =>
  rw[aQ (by simp),nu]
  by_cases hy:y=36
  ·subst hy
   rw[Z3 (by rfl),show(1:Int)=((1:Nat):Int) from rfl,fB (by simp)]
   exact Q1 (by unfold ct; rw[gW]; simp)
  ·have h0' : ¬((y.toNat:Int) == 36)=true:=by
    simp only[bk_]
    intro e
    apply hy
    apply UInt8.toNat_inj.1
    show y.toNat=36
    omega
   rw[Z2 h0']
   exact Q1 (by unfold ct; rw[gW]; simp[hy])
theorem ly {fc:Bool} {w1:ag} (hl:w1.length≤9223372036854775806) : ∀(ys pre:ag),w1=pre++ys→jm (ba w1) (pre.length:Int) 0 0 false false 0 0 fc false=some (((pA fc (pre++ys.takeWhile eL) (ys.dropWhile eL)).1,(pA fc (pre++ys.takeWhile eL) (ys.dropWhile eL)).2,()),())
 | [],pre,h=>by
  have hlen:w1.length=pre.length:=by rw[h]; simp
  rw[tV,aL (by rw[az]; omega)]
  simpa using ZA (fc:=fc) h (by omega)
 | y :: ys,pre,h=>by
  have hlen:pre.length < w1.length:=by rw[h]; simp
  rw[tV,aQ (by rw[az]; omega),kZ h]
  cases hu:eL y with
  | true =>
   have hu':65≤y.toNat∧y.toNat≤90:=by simpa[eL] using hu
   rw[aQ (by omega),kZ h,aQ (by omega),wr (by omega) (by omega),show(pre.length:Int)+1=((pre++[y]).length:Int) by simp,ly hl ys (pre++[y]) (by rw[h]; simp)]
   simp[hu]
  | false =>
   have hk:=ZA (fc:=fc) h (by omega)
   rw[em_ (by simp[hu]),au_ (by simp[hu]),bz_]
   by_cases h1:65≤y.toNat
   ·have h2 : ¬y.toNat≤90:=by
     intro h2
     simp[eL,h1,h2] at hu
    rw[aQ (by omega),kZ h,aL (by omega)]
    exact hk
   ·rw[aL (by omega)]
    exact hk
theorem rM {w:ag} (hw:w.length≤281474976710656):mu (ba w)=some (((cO w).1,(cO w).2,()),()):=by
 rw[Jr,az]
 cases w with
 | nil =>
  rw[aL (by simp)]
  exact ly (fc:=false) (w1:=[]) (by simp) [] [] rfl
 | cons y l =>
  rw[aa_] at hw
  rw[aQ (by simp),nu]
  by_cases hy:y=36
  ·subst hy
   rw[Z3 (by rfl),show(1:Int)=((1:Nat):Int) from rfl,fB (by simp)]
   have:=ly (fc:=true) (w1:=l) (by omega) l [] rfl
   have e:ct (36 :: l)=(true,l):=by unfold ct; rw[gW]; simp
   unfold cO
   rw[e]
   exact this
  ·have h0' : ¬((y.toNat:Int) == 36)=true:=by
    simp only[bk_]
    intro e
    apply hy
    apply UInt8.toNat_inj.1
    show y.toNat=36
    omega
   rw[Z2 h0']
   have:=ly (fc:=false) (w1:=y :: l) (by rw[aa_]; omega) (y :: l) [] rfl
   have e:ct (y :: l)=(false,y :: l):=by unfold ct; rw[gW]; simp[hy]
   unfold cO
   rw[e]
   exact this
theorem W5 {w:ag} (h:(cO w).2=true):aA (cO w).1.1=true∧fj (cO w).1=w:=by
 unfold cO pA at h ⊢
 split at h
 ·rename_i hc
  rw[Z3 hc]
  refine⟨hc.2,?_⟩
  obtain⟨⟨k1,k2⟩,k3,k4⟩:=bK.1 hc.2
  simp only at k1 k2 k3 k4
  obtain⟨c1,c2⟩:=Tg (w:=(ct w).2.takeWhile eL) (by omega)
  obtain⟨r1,r2⟩:=D5 hc.1
  unfold fj rX
  simp only[dd_]
  rw[c2,r1,Iq,List.takeWhile_append_dropWhile,Iq]
 ·cases h
theorem oE {p:aM} (h:aA p.1=true):cO (fj p)=(p,true):=by
 obtain⟨c,r,fc,fr,rfl,h1,h2,h3,h4⟩:=vj h
 obtain⟨e1,e2,e3,e4⟩:=L4 (r:=r) h1 h2 fc fr
 show cO (rX c r fc fr)=_
 unfold cO pA
 rw[e1,e2,e3,e4,FR ⟨c,by omega⟩ h1,qf,Z3 ⟨Bm (sx h4),h⟩]
theorem W6 {w:ag} (h:(cO w).2=false):cO w=(p0,false):=by
 unfold cO pA at h ⊢
 split at h
 ·cases h
 ·rename_i hc
  rw[Z2 hc]
theorem nR {w:ag} (hw:w.length≤281474976710656):ir (ba w)=some (((cO w).1,(cO w).2,()),()):=by
 rw[L3 hw]
 by_cases h:aA (pz w).1=true∧fj (pz w)=w
 ·have:=oE h.1
  rw[h.2] at this
  rw[Z3 h,ba_ h,this]
 ·rw[Z2 h,bm_ h]
  cases h2:(cO w).2 with
  | false=>rw[W6 h2]
  | true =>
   obtain⟨k1,k2⟩:=W5 h2
   refine ay_ ?_ h
   have:=W4 k1
   rw[k2] at this
   rw[this]
   exact⟨k1,k2⟩
def jf:ag:=[84,82,85,69]
def jB:ag:=[70,65,76,83,69]
def fq (w:ag):Int:=if df 5=ba w then 5 else if df 4=ba w then 4 else if df 3=ba w then 3 else if df 2=ba w then 2 else if df 1=ba w then 1 else 0
theorem W7 {w:ag} (h:fq w≠0):df (fq w)=ba w∧1≤fq w∧fq w≤5:=by
 unfold fq at h ⊢
 split
 ·exact⟨‹_›,by decide,by decide⟩
 ·split
  ·exact⟨‹_›,by decide,by decide⟩
  ·split
   ·exact⟨‹_›,by decide,by decide⟩
   ·split
    ·exact⟨‹_›,by decide,by decide⟩
    ·split
     ·exact⟨‹_›,by decide,by decide⟩
     ·rename_i h1 h2 h3 h4 h5
      simp[h1,h2,h3,h4,h5] at h
theorem It : ∀ n:Fin 6,1≤n.val→fq (lb (df (n.val:Int)))=(n.val:Int):=by decide +kernel
def vk (w:ag):ae :=
 if w=[] then v0 else
 if w.head? = some 39 then vT (ba (w.drop 1)) else
 if w=jf then vB true else
 if w=jB then vB false else
 if w.head? = some 35 then(4,fq w,eS,()) else
 if w.head? = some 45 then(if cW (w.drop 1) 16=true∧bF 0 (w.drop 1)≠0 then vN (-((bF 0 (w.drop 1):Nat):Int)) else(9,0,eS,())) else
 if cW w 16=true then vN ((bF 0 w:Nat):Int) else(9,0,eS,())
def bk (w:ag):ae×Bool:=if au (vk w)=true then(vk w,true) else(v0,false)
theorem O7 {v:ae} (h:v.2.2.1.size≤9223372036854775807) {a b:Int} {c:Z0}:aN a b c v.1 v.2.1 v.2.2.1=some ((if au v=true then v else v0,au v,()),()):=by
 rw[Cx,show(v.1,v.2.1,v.2.2.1,())=v from rfl,nr h]
 simp only[Z1]
 cases au v <;> rfl
theorem uf {w:ag} {n:Int} (h0:0≤n) (h1:n≤5) {a b e N:Int} {c f:Z0}:fi (ba w) n a b c e N f=fi (ba w) (n+1) a b c e (if df n=ba w then n else N) f:=by
 rw[rU,aQ h1,yM h0 h1]
 simp only[Z1,q6,Z9]
 rw[wr (by omega) (by omega)]
 split <;> rfl
theorem Yk {w:ag}:fi (ba w) 1 0 0 eS 4 0 eS=some ((if au (4,fq w,eS,())=true then(4,fq w,eS,()) else v0,au (4,fq w,eS,()),()),()):=by
 rw[uf (by decide) (by decide),uf (by decide) (by decide),uf (by decide) (by decide),uf (by decide) (by decide),uf (by decide) (by decide),rU,aL (by decide)]
 exact O7 (v:=(4,fq w,eS,())) (by show eS.size≤_; decide)
theorem Vw {w:ag} (hw:w.length≤9223372036854775807) {y:UInt8} {l:ag} (h:w=y :: l) :
  (if((y.toNat:Int) == 45)=true then(iJ (ba w) 1 fun y5=>((dk y5 16).bind fun z1=>(if(!z1.1.2.1)=true then(some (((0,0,(⟨#[]⟩:Z0),()),false,()),(()))) else(if((y.toNat:Int) == 45)=true then(if(z1.1.1 == 0)=true then(some (((0,0,(⟨#[]⟩:Z0),()),false,()),(()))) else(if((y.toNat:Int) == 45)=true then(aN 0 0 (⟨#[]⟩:Z0) 1 (gt_ gu_ (0 - z1.1.1)) (⟨#[]⟩:Z0)) else(aN 0 0 (⟨#[]⟩:Z0) 1 z1.1.1 (⟨#[]⟩:Z0)))) else(if((y.toNat:Int) == 45)=true then(aN 0 0 (⟨#[]⟩:Z0) 1 (gt_ gu_ (0 - z1.1.1)) (⟨#[]⟩:Z0)) else(aN 0 0 (⟨#[]⟩:Z0) 1 z1.1.1 (⟨#[]⟩:Z0)))))))
   else((dk (ba w) 16).bind fun z2=>(if(!z2.1.2.1)=true then(some (((0,0,(⟨#[]⟩:Z0),()),false,()),(()))) else(if((y.toNat:Int) == 45)=true then(if(z2.1.1 == 0)=true then(some (((0,0,(⟨#[]⟩:Z0),()),false,()),(()))) else(if((y.toNat:Int) == 45)=true then(aN 0 0 (⟨#[]⟩:Z0) 1 (gt_ gu_ (0 - z2.1.1)) (⟨#[]⟩:Z0)) else(aN 0 0 (⟨#[]⟩:Z0) 1 z2.1.1 (⟨#[]⟩:Z0)))) else(if((y.toNat:Int) == 45)=true then(aN 0 0 (⟨#[]⟩:Z0) 1 (gt_ gu_ (0 - z2.1.1)) (⟨#[]⟩:Z0)) else(aN 0 0 (⟨#[]⟩:Z0) 1 z2.1.1 (⟨#[]⟩:Z0)))))))
   = (let v:ae:=if w.head? = some 45 then(if cW (w.drop 1) 16=true∧bF 0 (w.drop 1)≠0 then vN (-((bF 0 (w.drop 1):Nat):Int)) else(9,0,eS,())) else if cW w 16=true then vN ((bF 0 w:Nat):Int) else(9,0,eS,())
    some ((if au v=true then v else v0,au v,()),())):=by
 have e9:au (9,0,eS,())=false:=by decide
 have hint : ∀ x:ag,dk (ba x) 16=_:=fun x=>Bl x (m:=16) (by decide)
 have hrange : ∀ x:ag,cW x 16=true→bF 0 x < 10 ^ 16:=by
  intro x hx
  unfold cW jM at hx
  simp only[Z8,Z9] at hx
  have:=B7 x 0 hx.1.1.1
  exact Nat.lt_of_lt_of_le (by simpa using this) (Nat.pow_le_pow_right (by decide) hx.2)
 subst h
 by_cases hy:y=45
 ·subst hy
  have e:(((45:UInt8).toNat:Int) == 45)=true:=rfl
  simp only[e,al_,cr_,bh_,ce_]
  rw[show(1:Int)=((1:Nat):Int) from rfl,fB (by simp)]
  simp only[bh_,ce_,hint,Z1]
  cases hr:cW l 16 with
  | false=>simp[e9]; rfl
  | true =>
   have:=hrange l hr
   by_cases h0:bF 0 l=0
   ·simp[h0,e9]; rfl
   ·have h0' : ¬(((bF 0 l:Nat):Int) == 0)=true:=by simp only[bk_]; omega
    simp only[aj_,Z5,ad_,al_,h0',ne_eq,h0,not_false_eq_true,and_self]
    rw[wr (by omega) (by omega),show(0:Int) - ((bF 0 l:Nat):Int) = -((bF 0 l:Nat):Int) by omega]
    exact O7 (v:=vN _) (by show eS.size≤_; decide)
 ·have e : ¬((y.toNat:Int) == 45)=true:=by
   simp only[bk_]
   intro e
   apply hy
   apply UInt8.toNat_inj.1
   show y.toNat=45
   omega
  have e2 : ¬(some y=some (45:UInt8)):=by simpa using hy
  simp only[e,ad_,cr_,e2,hint,Z1]
  cases hr:cW (y :: l) 16 with
  | false=>simp[e9]; rfl
  | true =>
   have:=hrange _ hr
   simp only[aj_,Z5,ad_,al_]
   exact O7 (v:=vN _) (by show eS.size≤_; decide)
theorem rN {w:ag} (hw:w.length≤9223372036854775807):r8 (ba w)=some (((bk w).1,(bk w).2,()),()):=by
 have ft : ∀ v:ae,vk w=v→some ((if au v=true then v else v0,au v,()),())=(some (((bk w).1,(bk w).2,()),()):Option ((ae×Bool×Unit)×Unit)):=by
  intro v hv
  unfold bk
  rw[hv]
  cases au v <;> rfl
 rw[Jt]
 have e0:(Z6 (ba w) == Z6 (⟨#[]⟩:Z0))=decide (w=[]):=dn (b:=[])
 have e1:(Z6 (ba w) == Z6 (⟨#[84,82,85,69]⟩:Z0))=decide (w=jf):=dn (b:=jf)
 have e2:(Z6 (ba w) == Z6 (⟨#[70,65,76,83,69]⟩:Z0))=decide (w=jB):=dn (b:=jB)
 rw[e0,e1,e2]
 cases w with
 | nil =>
  rw[aQ rfl]
  exact ft v0 rfl
 | cons y l =>
  rw[aL (by simp)]
  simp only[nu]
  rw[D2 y 39 (n:=39) rfl,D2 y 35 (n:=35) rfl]
  have hv:=vk.eq_def (y :: l)
  rw[Z2 (by simp)] at hv
  by_cases h39:y=39
  ·rw[aQ h39,show(1:Int)=((1:Nat):Int) from rfl,fB (by simp)]
   rw[Z3 (by rw[h39]; rfl)] at hv
   rw[aa_] at hw
   exact(O7 (v:=vT (ba ((y :: l).drop 1))) (by show(ba _).size≤_; rw[az]; simp; omega)).trans (ft _ hv)
  ·rw[aL h39]
   rw[Z2 (by simpa using h39)] at hv
   by_cases ht:(y :: l)=jf
   ·rw[Z3 ht] at hv
    rw[aQ ht,aQ ht,aQ ht]
    exact(O7 (v:=vB true) (by decide)).trans (ft _ hv)
   ·rw[Z2 ht] at hv
    rw[aL ht]
    by_cases hf:(y :: l)=jB
    ·rw[Z3 hf] at hv
     rw[aQ hf,aL ht]
     exact(O7 (v:=vB false) (by decide)).trans (ft _ hv)
    ·rw[Z2 hf] at hv
     rw[aL hf]
     by_cases h35:y=35
     ·rw[aQ h35]
      rw[Z3 (by rw[h35]; rfl)] at hv
      exact Yk.trans (ft _ hv)
     ·rw[aL h35]
      rw[Z2 (by simpa using h35)] at hv
      exact(Vw hw rfl).trans (ft _ hv)
theorem vl {n:Int} (h:n < 0):dr n=ba (45 :: am_ (-n).toNat):=by
 rw[vd h,show -n=((-n).toNat:Int) by omega,l6,show(⟨#[45]⟩:Z0)=ba [45] from rfl,nt]
 congr 2
theorem xx {u:Nat}:am_ u≠[]∧(am_ u).head? ≠ some 39∧(am_ u).head? ≠ some 35∧(am_ u).head? ≠ some 45∧am_ u≠jf∧am_ u≠jB:=by
 obtain⟨y,l,hy,hd⟩:=FS u
 rw[hy]
 have hn : ∀ c:UInt8,dy c=false→y≠c:=by
  rintro c hc rfl
  rw[hd] at hc
  cases hc
 refine⟨by simp,?_,?_,?_,?_,?_⟩
 ·simpa using hn 39 (by decide)
 ·simpa using hn 35 (by decide)
 ·simpa using hn 45 (by decide)
 ·intro e
  exact hn 84 (by decide) (fn_ e).1
 ·intro e
  exact hn 70 (by decide) (fn_ e).1
theorem Q2 {u:Nat} (h:u≤1000000000000000):(am_ u).length≤16:=FA 15 u (by omega)
theorem W8 {v:ae} (h:au v=true) (k:v.1≠2):v.2.2.1=eS:=by
 unfold au at h
 rw[Z2 k] at h
 simp only[Z8,Z9] at h
 exact h.1
theorem W9 {v:ae} (h:au v=true) (k:v.1=0):v.2.1=0:=by
 unfold au at h
 rw[Z2 (by omega),Z3 k] at h
 simp only[Z8,Z9] at h
 exact h.2
theorem O8 {v:ae} (h:au v=true) (k:v.1=2):v.2.1=0:=by
 unfold au at h
 rw[Z3 k] at h
 simp only[Z8,Z9] at h
 exact h.1
theorem qS {v:ae} (h:au v=true):v=v0∨(∃ n,v=vN n ∧ -1000000000000000≤n∧n≤1000000000000000)∨(∃ s,v=vT s)∨(∃ b,v=vB b) ∨ ∃ n:Fin 6,v=vE (n.val:Int)∧1≤n.val:=by
 obtain⟨k,n,s,u⟩:=v
 have hS:=fun hk=>W8 h hk
 rcases QP h with hk | hk | hk | hk | hk <;> simp only at hk <;> subst hk
 ·have h0:=W9 h rfl
  have h1:=hS (by show(_:Int)≠2; omega)
  simp only at h0 h1
  subst h0; subst h1
  exact .inl rfl
 ·have h0:=xq h rfl
  have h1:=hS (by show(_:Int)≠2; omega)
  simp only at h0 h1
  subst h1
  exact .inr (.inl ⟨n,rfl,h0.1,h0.2⟩)
 ·have h0:=O8 h rfl
  simp only at h0
  subst h0
  exact .inr (.inr (.inl ⟨s,rfl⟩))
 ·have h0:=O1 h rfl
  have h1:=hS (by show(_:Int)≠2; omega)
  simp only at h0 h1
  subst h1
  refine .inr (.inr (.inr (.inl ⟨decide (n=1),?_⟩)))
  have:n=0∨n=1:=by omega
  rcases this with rfl | rfl <;> rfl
 ·have h0:=B5 h rfl
  have h1:=hS (by show(_:Int)≠2; omega)
  simp only at h0 h1
  subst h1
  refine .inr (.inr (.inr (.inr ⟨⟨n.toNat,by omega⟩,?_,by simp; omega⟩)))
  show _=vE ((n.toNat:Nat):Int)
  rw[cd_ (by omega)]
  rfl
theorem Vx {v:ae} (h:au v=true):vk (lb (cH v))=v:=by
 rcases qS h with rfl | ⟨n,rfl,h0,h1⟩ | ⟨s,rfl⟩ | ⟨b,rfl⟩ | ⟨n,rfl,h0⟩
 ·rfl
 ·have e:cH (vN n)=dr n:=rfl
  rw[e]
  by_cases hn:n < 0
  ·rw[vl hn,dC]
   have hr:cW (am_ (-n).toNat) 16=true:=Bm (Q2 (by omega))
   unfold vk
   simp only[cr_,bh_,ce_,hr,qf]
   rw[Z2 (by simp),Z2 (by decide),Z2 (by unfold jf; simp),Z2 (by unfold jB; simp),Z2 (by decide),Z3 trivial,Z3 ⟨trivial,by omega⟩]
   congr 1
   omega
  ·rw[show n=(n.toNat:Int) by omega,l6,dC]
   have hr:cW (am_ n.toNat) 16=true:=Bm (Q2 (by omega))
   obtain⟨d1,d2,d3,d4,d5,d6⟩:=xx (u:=n.toNat)
   unfold vk
   rw[Z2 d1,Z2 d2,Z2 d5,Z2 d6,Z2 d3,Z2 d4,Z3 hr,qf]
 ·have e:lb (cH (vT s))=39 :: lb s:=by
   show lb ((⟨#[39]⟩:Z0)++s)=_
   rw[←fm s,show(⟨#[39]⟩:Z0)=ba [39] from rfl,nt,dC]
   simp
  rw[e]
  unfold vk
  rw[Z2 (by simp),Z3 (by rfl)]
  simp only[bh_,ce_,fm]
 ·cases b <;> rfl
 ·have e:lb (cH (vE (n.val:Int)))=lb (df (n.val:Int)):=rfl
  rw[e]
  have h1 : ∀ n:Fin 6,1≤n.val→lb (df (n.val:Int))≠[]∧(lb (df (n.val:Int))).head? = some 35∧lb (df (n.val:Int))≠jf∧lb (df (n.val:Int))≠jB:=by decide +kernel
  obtain⟨a1,a2,a3,a4⟩:=h1 n h0
  unfold vk
  rw[Z2 a1,Z2 (by rw[a2]; decide),Z2 a3,Z2 a4,Z3 a2,It n h0]
  rfl
theorem yQ {v:ae} (h:au v=true):bk (lb (cH v))=(v,true):=by
 unfold bk
 rw[Vx h,Z3 h]
theorem Yl {w:ag} (h:au (vk w)=true):cH (vk w)=ba w:=by
 unfold vk at h ⊢
 split
 ·rename_i hw
  rw[hw]
  rfl
 ·rename_i hw
  rw[Z2 hw] at h
  split
  ·rename_i h39
   cases w with
   | nil=>cases h39
   | cons y l =>
    simp only[cr_,ap_] at h39
    subst h39
    show(⟨#[39]⟩:Z0)++ba l=_
    rw[show(⟨#[39]⟩:Z0)=ba [39] from rfl,nt]
    rfl
  ·rename_i h39
   rw[Z2 h39] at h
   split
   ·rename_i ht
    rw[ht]
    rfl
   ·rename_i ht
    rw[Z2 ht] at h
    split
    ·rename_i hf
     rw[hf]
     rfl
    ·rename_i hf
     rw[Z2 hf] at h
     split
     ·rename_i h35
      rw[Z3 h35] at h
      have:=B5 h rfl
      simp only at this
      exact(W7 (by omega)).1
     ·rename_i h35
      rw[Z2 h35] at h
      have e9:au (9,0,eS,())=false:=by decide
      split
      ·rename_i h45
       rw[Z3 h45] at h
       split
       ·rename_i hc
        cases w with
        | nil=>cases h45
        | cons y l =>
         simp only[cr_,ap_] at h45
         subst h45
         simp only[bh_,ce_] at hc ⊢
         show dr (-((bF 0 l:Nat):Int))=_
         rw[vl (by omega),show(- -((bF 0 l:Nat):Int)).toNat=bF 0 l by omega,(D5 hc.1).1]
       ·rename_i hc
        rw[Z2 hc,e9] at h
        cases h
      ·rename_i h45
       rw[Z2 h45] at h
       split
       ·rename_i hc
        show dr ((bF 0 w:Nat):Int)=_
        rw[l6,(D5 hc).1]
       ·rename_i hc
        rw[Z2 hc,e9] at h
        cases h
theorem od {w:ag} (h:(bk w).2=true):au (bk w).1=true∧cH (bk w).1=ba w:=by
 unfold bk at h ⊢
 split at h
 ·rename_i hc
  rw[Z3 hc]
  exact⟨hc,Yl hc⟩
 ·cases h
theorem L5 {w:ag} (h:(bk w).2=false):bk w=(v0,false):=by
 unfold bk at h ⊢
 split at h
 ·cases h
 ·rename_i hc
  rw[Z2 hc]
theorem O9 : ∀(l:ag) (a:Nat),a≤bF a l
 | [],a=>ag_ _
 | c :: l,a=>by
  have:=O9 l (a*10+(c.toNat - 48))
  show a≤bF (a*10+(c.toNat - 48)) l
  omega
theorem J2 : ∀(l:ag) (a:Nat),l.all dy=true→bF a l≤100000000000000000→ew_ 18446744073709551615 a l = .ok (bF a l)
 | [],a,_,_=>rfl
 | c :: l,a,h,hv=>by
  simp only[bp_,Z8] at h
  have hd:48≤c.toNat∧c.toNat≤57:=by simpa[dy] using h.1
  have hg:=O9 l (a*10+(c.toNat - 48))
  have hv':bF (a*10+(c.toNat - 48)) l≤100000000000000000:=hv
  unfold ew_
  rw[Z3 hd,Z2 (by omega),Z2 (by omega),J2 l _ h.2 hv']
  rfl
theorem Ca {l:ag} (h:jM l=true):l.all dy=true:=by
 unfold jM at h
 simp only[Z8] at h
 exact h.1.1
theorem Ti {u:Nat} (h:u≤1000000000000000):gd_ 64 (am_ u) = .ok u:=by
 unfold gd_
 rw[Z2 xx.1]
 have:=J2 (am_ u) 0 (Ca (qg u)) (by rw[qf]; omega)
 rw[qf] at this
 exact this
theorem Q3 {u:Nat} (h:u≤1000000000000000):cu (am_ u)=((u:Int),true):=by
 obtain⟨y,l,hy,hd⟩:=FS u
 have hd':48≤y.toNat∧y.toNat≤57:=by simpa[dy] using hd
 have hp:=Ti h
 unfold cu
 have:dp_ 64 (am_ u) = .ok (u:Int):=by
  rw[hy] at hp ⊢
  unfold dp_
  simp only
  rw[Z2 (by omega),hp]
  simp only
  rw[Z2 (by omega),Z2 (by omega),Z2 (by omega)]
 rw[this]
theorem Q4 {u:Nat} (h:u≤1000000000000000):cu (45 :: am_ u)=(-(u:Int),true):=by
 have hp:=Ti h
 unfold cu
 have:dp_ 64 (45 :: am_ u) = .ok (-(u:Int)):=by
  unfold dp_
  simp only
  have h45:(45:UInt8).toNat=45:=rfl
  rw[Z3 (.inr h45),hp]
  simp only
  rw[Z2 (by omega),Z2 (by omega),Z3 h45]
 rw[this]
def cV (w:ag):ae :=
 if([39]:ag).isPrefixOf w=true then vT (ba (w.drop 1)) else
 if w=jB then vB (decide (w=jf)) else
 if w=jf then vB (decide (w=jf)) else
 if([35]:ag).isPrefixOf w=true then(if fq w=0 then v0 else vE (fq w)) else
 if w≠[] then vN (cu w).1 else v0
theorem Cb {v:ae} {w:ag} (h:v.2.2.1.size≤9223372036854775807):((dc v).bind fun z2=>(if(!z2.1.1)=true then(some (((0,0,(⟨#[]⟩:Z0),()),false,()),(()))) else((fw v).bind fun z3=>(if(!(Z6 z3.1.1 == Z6 (ba w)))=true then(some (((0,0,(⟨#[]⟩:Z0),()),false,()),(()))) else(some ((v,true,()),(())))))))=some ((if au v=true∧cH v=ba w then v else v0,decide (au v=true∧cH v=ba w),()),()):=by
 rw[eJ h]
 simp only[Z1]
 cases ho:au v with
 | false=>simp; rfl
 | true =>
  rw[rL ho]
  simp only[Z1,aj_,Z5,ad_,q6,true_and]
  by_cases hv:cH v=ba w
  ·simp[hv]
  ·simp[hv]; rfl
theorem Ym {w:ag} (hc : ∀ v:ae,au v=true→cH v=ba w→cV w=v):(if au (cV w)=true∧cH (cV w)=ba w then cV w else v0)=(bk w).1∧decide (au (cV w)=true∧cH (cV w)=ba w)=(bk w).2:=by
 by_cases h:au (cV w)=true∧cH (cV w)=ba w
 ·have:=yQ h.1
  rw[h.2,dC] at this
  rw[Z3 h,ba_ h,this]
  exact⟨rfl,rfl⟩
 ·rw[Z2 h,bm_ h]
  cases h2:(bk w).2 with
  | false=>rw[L5 h2]; exact⟨rfl,rfl⟩
  | true =>
   obtain⟨k1,k2⟩:=od h2
   refine ay_ ?_ h
   rw[hc _ k1 k2]
   exact⟨k1,k2⟩
theorem Xa {v:ae} (h:au v=true):cV (lb (cH v))=v:=by
 rcases qS h with rfl | ⟨n,rfl,h0,h1⟩ | ⟨s,rfl⟩ | ⟨b,rfl⟩ | ⟨n,rfl,h0⟩
 ·rfl
 ·have e:cH (vN n)=dr n:=rfl
  rw[e]
  by_cases hn:n < 0
  ·rw[vl hn,dC]
   unfold cV
   rw[Z2 (by simp),Z2 (by unfold jB; simp),Z2 (by unfold jf; simp),Z2 (by simp),Z3 (by simp),Q4 (by omega)]
   congr 1
   simp only
   omega
  ·rw[show n=(n.toNat:Int) by omega,l6,dC]
   obtain⟨d1,d2,d3,d4,d5,d6⟩:=xx (u:=n.toNat)
   have hp:=Q3 (u:=n.toNat) (by omega)
   obtain⟨y,l,hy,hd⟩:=FS n.toNat
   rw[hy] at d1 d2 d3 d4 d5 d6 hp ⊢
   unfold cV
   rw[Z2 (by rw[gW]; simpa using d2),Z2 d6,Z2 d5,Z2 (by rw[gW]; simpa using d3),Z3 d1,hp]
 ·have e:lb (cH (vT s))=39 :: lb s:=by
   show lb ((⟨#[39]⟩:Z0)++s)=_
   rw[←fm s,show(⟨#[39]⟩:Z0)=ba [39] from rfl,nt,dC]
   simp
  rw[e]
  unfold cV
  rw[Z3 (by simp)]
  simp only[bh_,ce_,fm]
 ·cases b <;> rfl
 ·have e:lb (cH (vE (n.val:Int)))=lb (df (n.val:Int)):=rfl
  rw[e]
  have h1 : ∀ n:Fin 6,1≤n.val→([39]:ag).isPrefixOf (lb (df (n.val:Int)))=false∧([35]:ag).isPrefixOf (lb (df (n.val:Int)))=true∧lb (df (n.val:Int))≠jf∧lb (df (n.val:Int))≠jB:=by decide +kernel
  obtain⟨a1,a2,a3,a4⟩:=h1 n h0
  unfold cV
  rw[Z2 (by rw[a1]; decide),Z2 a4,Z2 a3,Z3 a2,It n h0,Z2 (by omega)]
theorem xy {w:ag} {n:Int} (h0:0≤n) (h1:n≤5) {a b d e:Int} {c f:Z0}:g9 (ba w) n a b c d e f=g9 (ba w) (n+1) a b c (if df n=ba w then 4 else d) (if df n=ba w then n else e) (if df n=ba w then eS else f):=by
 rw[t6,aQ h1,rK h0 h1]
 simp only[Z1,q6,Z9,fN]
 rw[wr (by omega) (by omega)]
 split <;> rfl
theorem G5 {α:Type} (w:ag) (f:Int→α) (z:α) (hz:z=f 0):(if df 5=ba w then f 5 else if df 4=ba w then f 4 else if df 3=ba w then f 3 else if df 2=ba w then f 2 else if df 1=ba w then f 1 else z)=f (fq w):=by
 unfold fq
 subst hz
 repeat' split <;> first | rfl | skip
theorem Zb {w:ag}:g9 (ba w) 1 0 0 eS 0 0 eS=some ((if au (if fq w=0 then v0 else vE (fq w))=true∧cH (if fq w=0 then v0 else vE (fq w))=ba w then(if fq w=0 then v0 else vE (fq w)) else v0,decide (au (if fq w=0 then v0 else vE (fq w))=true∧cH (if fq w=0 then v0 else vE (fq w))=ba w),()),()):=by
 rw[xy (by decide) (by decide),xy (by decide) (by decide),xy (by decide) (by decide),xy (by decide) (by decide),xy (by decide) (by decide),t6,aL (by decide)]
 have e1:=G5 w (fun n=>if n=0 then(0:Int) else 4) 0 (by simp)
 have e2:=G5 w (fun n=>n) 0 rfl
 have e3:=G5 w (fun n=>eS) eS rfl
 simp only[show(1:Int)+1=2 from rfl,show(2:Int)+1=3 from rfl,show(3:Int)+1=4 from rfl,show(4:Int)+1=5 from rfl]
 simp only[show(5:Int)=0↔False by decide,show(4:Int)=0↔False by decide,show(3:Int)=0↔False by decide,show(2:Int)=0↔False by decide,show(1:Int)=0↔False by decide,ad_] at e1
 rw[e1,e2,e3]
 have e:((if fq w=0 then(0:Int) else 4),fq w,eS,())=(if fq w=0 then v0 else vE (fq w)):=by
  by_cases h:fq w=0
  ·rw[Z3 h,Z3 h,h]
   rfl
  ·rw[Z2 h,Z2 h]
   rfl
 rw[e]
 exact Cb (by split <;> (show eS.size≤_; decide))
theorem nS {w:ag} (hw:w.length≤281474976710656):eR (ba w)=some (((bk w).1,(bk w).2,()),()):=by
 obtain⟨p1,p2⟩:=Ym (w:=w) (fun v h1 h2=>by have:=Xa h1; rw[h2,dC] at this; exact this)
 have ft : ∀ v:ae,cV w=v→(some ((if au v=true∧cH v=ba w then v else v0,decide (au v=true∧cH v=ba w),()),()):Option ((ae×Bool×Unit)×Unit))=some (((bk w).1,(bk w).2,()),()):=by
  rintro v rfl
  rw[p1,p2]
 have hv:=cV.eq_def w
 have e1:(Z6 (ba w) == Z6 (⟨#[84,82,85,69]⟩:Z0))=decide (w=jf):=dn (b:=jf)
 have e2:(Z6 (ba w) == Z6 (⟨#[70,65,76,83,69]⟩:Z0))=decide (w=jB):=dn (b:=jB)
 have e0:(Z6 (ba w) == Z6 (⟨#[]⟩:Z0))=decide (w=[]):=dn (b:=[])
 rw[Jz,show(⟨#[39]⟩:Z0)=ba [39] from rfl,rx w [39] (by omega),show(⟨#[35]⟩:Z0)=ba [35] from rfl,ru w [35] (by omega),e0,e1,e2]
 simp only[Z1,rq]
 cases h39:([39]:ag).isPrefixOf w with
 | true =>
  rw[Z3 h39] at hv
  simp only[al_]
  refine(Cb (v:=vT (ba (w.drop 1))) ?_).trans (ft _ hv)
  show(ba _).size≤_
  rw[az]
  simp
  omega
 | false =>
  rw[Z2 (by rw[h39]; decide)] at hv
  simp only[Z5,ad_]
  by_cases hf:w=jB
  ·rw[Z3 hf] at hv
   rw[aQ hf]
   exact(Cb (v:=vB (decide (w=jf))) (by show eS.size≤_; decide)).trans (ft _ hv)
  ·rw[Z2 hf] at hv
   rw[aL hf]
   by_cases ht:w=jf
   ·rw[Z3 ht] at hv
    rw[aQ ht]
    exact(Cb (v:=vB (decide (w=jf))) (by show eS.size≤_; decide)).trans (ft _ hv)
   ·rw[Z2 ht] at hv
    rw[aL ht]
    cases h35:([35]:ag).isPrefixOf w with
    | true =>
     rw[Z3 h35] at hv
     simp only[al_]
     exact Zb.trans (ft _ hv)
    | false =>
     rw[Z2 (by rw[h35]; decide)] at hv
     simp only[Z5,ad_]
     by_cases he:w=[]
     ·rw[Z2 (by simpa using he)] at hv
      simp only[he,bv_,aj_,Z5,ad_]
      rw[he] at hv ft
      exact(Cb (v:=v0) (w:=[]) (by decide)).trans (ft _ hv)
     ·rw[Z3 he] at hv
      simp only[he,decide_false,as_,al_,wa hw,Z1,jx]
      exact(Cb (v:=vN (cu w).1) (by show eS.size≤_; decide)).trans (ft _ hv)
def Bn (c:UInt8):Bool:=decide (c=32)
def bl (l:ag):ag:=l.dropWhile Bn
def aP (c:UInt8):Bool:=eL c || dy c || decide (c=36)
theorem Yn:(fun c=>([32]:ag).contains c)=Bn:=funext fun c=>pw (p:=fun c=>([32]:ag).contains c=Bn c) (by decide +kernel) c
theorem Yo:(fun c=>([65,66,67,68,69,70,71,72,73,74,75,76,77,78,79,80,81,82,83,84,85,86,87,88,89,90,48,49,50,51,52,53,54,55,56,57,36]:ag).contains c)=aP:=funext fun c=>pw (p:=fun c=>([65,66,67,68,69,70,71,72,73,74,75,76,77,78,79,80,81,82,83,84,85,86,87,88,89,90,48,49,50,51,52,53,54,55,56,57,36]:ag).contains c=aP c) (by decide +kernel) c
theorem FT (p:UInt8→Bool) : ∀ l:ag,(l.dropWhile p).dropWhile p=l.dropWhile p
 | []=>rfl
 | c :: l=>by
  cases h:p c with
  | true=>rw[fb_ h,FT p l]
  | false =>
   have h' : ¬p c=true:=by rw[h]; decide
   rw[au_ h',au_ h']
theorem dD (l:ag):bl (bl l)=bl l:=FT _ _
theorem ay (l:ag):bl l <:+ l:=List.dropWhile_suffix _
theorem aJ {a b:ag} (h:a <:+ b):a.length≤b.length:=h.length_le
theorem mP (l:ag) (b:Bool) (ns:List ab):iE (ba l) b ns=some ((),((ba (bl l),ns,b,()),())):=by
 rw[Cv,show(⟨#[32]⟩:Z0)=ba [32] from rfl,vZ _ _ (by decide +kernel),Yn]
 rfl
def Ws:List ag:=[[60,62],[60,61],[62,61],[60],[62],[61],[38],[43],[45],[42],[47],[40],[41],[44],[58]]
def sg (l:ag):ag:=(Ws.find? fun p=>p.isPrefixOf l).getD []
theorem FU {l:ag} {b:Bool} {ns:List ab} (hl:l.length≤1000) {X:List Z0} (hX:X.length≤100) : ∀(ys:List ag) (pre:List Z0),X=pre++ys.map (fun x=>ba x)→lx (X.length:Int) (pre.length:Int) (ba l) b X ns=some ((ba ((ys.find? fun p=>p.isPrefixOf l).getD []),()),((ba l,ns,b,()),()))
 | [],pre,h=>by
  rw[rm,aL (ci (by simpa using h))]
  rfl
 | y :: ys,pre,h=>by
  have h':X=pre++ba y :: ys.map (fun x=>ba x):=by simpa using h
  have hd:aw_ X (Int.toNat (pre.length:Int)) (⟨#[]⟩:Z0)=ba y:=by rw[h']; exact wD
  rw[rm,aQ (cr h'),nq h',hd,ru _ _ (by omega)]
  simp only[Z1,cy_]
  cases hy:y.isPrefixOf l with
  | true=>rfl
  | false =>
   simp only[Z5,ad_]
   rw[bi h' (by omega)]
   exact FU hl hX ys (pre++[ba y]) (by rw[h']; simp)
theorem L6 {l:ag} {b:Bool} {ns:List ab} (hl:l.length≤1000):pi (ba l) b ns=some ((ba (sg (bl l)),()),((ba (bl l),ns,b,()),())):=by
 rw[Fl,mP]
 simp only[Z1]
 have:=aJ (ay l)
 exact FU (by omega) (by decide) Ws [] rfl
theorem L7 (l:ag):(sg l).isPrefixOf l=true:=by
 unfold sg
 cases h:Ws.find? fun p=>p.isPrefixOf l with
 | none=>simp
 | some p =>
  have:=List.find?_some h
  simpa using this
theorem Cc {p l:ag} (h:p.isPrefixOf l=true):p.length≤l.length:=(dg_.1 h).length_le
theorem cX {l w:ag} {b:Bool} {ns:List ab} (hl:l.length≤1000):bn (ba w) (ba l) b ns=some ((decide (sg (bl l)=w),()),((ba (if sg (bl l)=w then(bl l).drop w.length else bl l),ns,b,()),())):=by
 rw[Fm,L6 hl]
 simp only[Z1,dn]
 by_cases h:sg (bl l)=w
 ·have:=Cc (L7 (bl l))
  rw[h] at this
  simp only[h,bv_,aj_,Z5,ad_,al_,az]
  rw[fB this]
 ·simp[h]
def gO (y:UInt8) (a b:Bool):Int:=if y=60 then(if a=true then 7 else if b=true then 9 else 8) else if y=62 then(if b=true then 11 else 10) else if y=61 then 6 else if y=38 then 5 else if y=43 then 1 else if y=45 then 2 else if y=42 then 3 else if y=47 then 4 else 0
def gS (y:UInt8) (a b:Bool):ag:=if y=60 then(if a=true then [60,62] else if b=true then [60,61] else [60]) else if y=62 then(if b=true then [62,61] else [62]) else if y=61 then [61] else if y=38 then [38] else if y=43 then [43] else if y=45 then [45] else if y=42 then [42] else if y=47 then [47] else if y=40 then [40] else if y=41 then [41] else if y=44 then [44] else if y=58 then [58] else []
def d8 (l:ag):Int:=match l with
 | []=>0
 | y :: t=>gO y (decide (t.head? = some 62)) (decide (t.head? = some 61))
def du (k:Int):ag:=([[],[43],[45],[42],[47],[38],[61],[60,62],[60],[60,61],[62],[62,61]]:List ag).getD k.toNat []
theorem G6 (y:UInt8) (t:ag):sg (y :: t)=gS y (decide (t.head? = some 62)) (decide (t.head? = some 61)):=by
 unfold sg Ws
 simp only[cy_,List.find?_nil,gW,D1]
 generalize decide (t.head? = some 62)=a
 generalize decide (t.head? = some 61)=b
 have : ∀ a b:Bool,(Option.getD (match decide (y=60) && a with | true=>some [60,62] | false=>match decide (y=60) && b with | true=>some [60,61] | false=>match decide (y=62) && b with | true=>some [62,61] | false=>match decide (y=60) with | true=>some [60] | false=>match decide (y=62) with | true=>some [62] | false=>match decide (y=61) with | true=>some [61] | false=>match decide (y=38) with | true=>some [38] | false=>match decide (y=43) with | true=>some [43] | false=>match decide (y=45) with | true=>some [45] | false=>match decide (y=42) with | true=>some [42] | false=>match decide (y=47) with | true=>some [47] | false=>match decide (y=40) with | true=>some [40] | false=>match decide (y=41) with | true=>some [41] | false=>match decide (y=44) with | true=>some [44] | false=>match decide (y=58) with | true=>some [58] | false=>none) []:ag)=gS y a b :=
  pw (p:=fun y => ∀ a b:Bool,(Option.getD (match decide (y=60) && a with | true=>some [60,62] | false=>match decide (y=60) && b with | true=>some [60,61] | false=>match decide (y=62) && b with | true=>some [62,61] | false=>match decide (y=60) with | true=>some [60] | false=>match decide (y=62) with | true=>some [62] | false=>match decide (y=61) with | true=>some [61] | false=>match decide (y=38) with | true=>some [38] | false=>match decide (y=43) with | true=>some [43] | false=>match decide (y=45) with | true=>some [45] | false=>match decide (y=42) with | true=>some [42] | false=>match decide (y=47) with | true=>some [47] | false=>match decide (y=40) with | true=>some [40] | false=>match decide (y=41) with | true=>some [41] | false=>match decide (y=44) with | true=>some [44] | false=>match decide (y=58) with | true=>some [58] | false=>none) []:ag)=gS y a b) (by decide +kernel) y
 exact this a b
theorem il {c:UInt8} (hc:c=45∨c=40∨c=41∨c=44∨c=58) (l:ag):(sg l=[c])=(l.head? = some c):=by
 apply propext
 constructor
 ·intro h
  have:=L7 l
  rw[h,D0] at this
  exact of_decide_eq_true this
 ·intro h
  cases l with
  | nil=>cases h
  | cons y t =>
   simp only[cr_,ap_] at h
   subst h
   rw[G6]
   rcases hc with rfl | rfl | rfl | rfl | rfl <;> rfl
def Yp (s:ag):Int:=if du 11=s then 11 else if du 10=s then 10 else if du 9=s then 9 else if du 8=s then 8 else if du 7=s then 7 else if du 6=s then 6 else if du 5=s then 5 else if du 4=s then 4 else if du 3=s then 3 else if du 2=s then 2 else if du 1=s then 1 else 0
theorem L8 (y:UInt8) : ∀ a b:Bool,Yp (gS y a b)=gO y a b∧(gO y a b≠0→gS y a b=du (gO y a b))∧0≤gO y a b∧gO y a b≤11 :=
 pw (p:=fun y => ∀ a b:Bool,Yp (gS y a b)=gO y a b∧(gO y a b≠0→gS y a b=du (gO y a b))∧0≤gO y a b∧gO y a b≤11) (by decide +kernel) y
theorem Yq (l:ag):Yp (sg l)=d8 l:=by
 cases l with
 | nil=>decide
 | cons y t =>
  rw[G6]
  exact(L8 y _ _).1
theorem qk {l:ag} (h:d8 l≠0):sg l=du (d8 l):=by
 cases l with
 | nil=>exact ay_ rfl h
 | cons y t =>
  rw[G6]
  exact(L8 y _ _).2.1 h
theorem l7 (l:ag):0≤d8 l∧d8 l≤11:=by
 cases l with
 | nil=>decide
 | cons y t=>exact(L8 y _ _).2.2
theorem yR {k:Int} (h0:0≤k) (h1:k≤11):wU k=some ((ba (du k),()),()):=by
 rw[Qr,dx h0 (by show k < 12; omega)]
 have : ∀ k:Fin 12,aw_ ([(⟨#[]⟩:Z0),(⟨#[43]⟩:Z0),(⟨#[45]⟩:Z0),(⟨#[42]⟩:Z0),(⟨#[47]⟩:Z0),(⟨#[38]⟩:Z0),(⟨#[61]⟩:Z0),(⟨#[60,62]⟩:Z0),(⟨#[60]⟩:Z0),(⟨#[60,61]⟩:Z0),(⟨#[62]⟩:Z0),(⟨#[62,61]⟩:Z0)]:(List Z0)) k.val (⟨#[]⟩:Z0)=ba (du (k.val:Int)):=by decide +kernel
 have h:=this ⟨k.toNat,by omega⟩
 simp only[cd_ h0] at h
 rw[h]
theorem sy {k:Int} (h0:0≤k) (h1:k≤11):lf k=some ((ba (du k),()),()):=by
 rw[Qf,dx h0 (by show k < 12; omega)]
 have : ∀ k:Fin 12,aw_ ([(⟨#[]⟩:Z0),(⟨#[43]⟩:Z0),(⟨#[45]⟩:Z0),(⟨#[42]⟩:Z0),(⟨#[47]⟩:Z0),(⟨#[38]⟩:Z0),(⟨#[61]⟩:Z0),(⟨#[60,62]⟩:Z0),(⟨#[60]⟩:Z0),(⟨#[60,61]⟩:Z0),(⟨#[62]⟩:Z0),(⟨#[62,61]⟩:Z0)]:(List Z0)) k.val (⟨#[]⟩:Z0)=ba (du (k.val:Int)):=by decide +kernel
 have h:=this ⟨k.toNat,by omega⟩
 simp only[cd_ h0] at h
 rw[h]
theorem Iu {least deep left op k:Int} {l:ag} {b:Bool} {ns:List ab} (hl:l.length≤1000) (h0:0≤k) (h1:k≤11) :
  cF least deep left op k (ba l) b ns=cF least deep left (if du k=sg (bl l) then k else op) (k+1) (ba (bl l)) b ns:=by
 rw[pq,aQ h1,L6 hl]
 simp only[Z1]
 rw[yR h0 h1]
 simp only[Z1,dn,Z9]
 rw[wr (by omega) (by omega)]
 by_cases h:sg (bl l)=du k
 ·rw[Z3 h,Z3 h.symm]
 ·rw[Z2 h,Z2 (Ne.symm h)]
theorem ug {least deep left:Int} {l:ag} {b:Bool} {ns:List ab} (hl:l.length≤1000) :
  cF least deep left 0 1 (ba l) b ns=cF least deep left (d8 (bl l)) 12 (ba (bl l)) b ns:=by
 have:=aJ (ay l)
 have st : ∀(op k:Int),0≤k→k≤11→cF least deep left op k (ba (bl l)) b ns=cF least deep left (if du k=sg (bl l) then k else op) (k+1) (ba (bl l)) b ns:=by
  intro op k h0 h1
  rw[Iu (by omega) h0 h1,dD]
 rw[Iu hl (by decide) (by decide),st _ (1+1) (by decide) (by decide),st _ (1+1+1) (by decide) (by decide),st _ (1+1+1+1) (by decide) (by decide),st _ (1+1+1+1+1) (by decide) (by decide),st _ (1+1+1+1+1+1) (by decide) (by decide),
  st _ (1+1+1+1+1+1+1) (by decide) (by decide),st _ (1+1+1+1+1+1+1+1) (by decide) (by decide),st _ (1+1+1+1+1+1+1+1+1) (by decide) (by decide),st _ (1+1+1+1+1+1+1+1+1+1) (by decide) (by decide),st _ (1+1+1+1+1+1+1+1+1+1+1) (by decide) (by decide)]
 rw[←Yq (bl l)]
 rfl
def bU (s l:ag):Int:=(s.length:Int) - (l.length:Int)
theorem oe {s l:ag} (h:l <:+ s) : ∃ pre,s=pre++l∧bU s l=(pre.length:Int):=by
 obtain⟨pre,h⟩:=h
 refine⟨pre,h.symm,?_⟩
 unfold bU
 rw[←h,Z7]
 omega
theorem FV {s:ag} {b:Bool} {ns:List ab} (hs:s.length≤1000) : ∀(l:ag),l <:+ s→lw (ba s) (bU s l) b ns=some ((),((ba s,bU s (bl l),b,ns,()),()))
 | [],h=>by
  rw[rl,aL (by rw[az]; unfold bU; simp)]
  rfl
 | c :: l,h=>by
  obtain⟨pre,h1,h2⟩:=oe h
  have hl:pre.length < s.length:=by rw[h1]; simp
  rw[rl,h2,aQ (by rw[az]; omega),kZ h1]
  by_cases hc:c=32
  ·subst hc
   have hl':l <:+ s:=List.IsSuffix.trans (List.suffix_cons _ _) h
   rw[Z3 (by rfl),wr (by omega) (by omega)]
   have e:(pre.length:Int)+1=bU s l:=by
    rw[←h2]
    unfold bU
    rw[aa_]
    omega
   rw[e,FV hs l hl']
   rfl
  ·have h0' : ¬((c.toNat:Int) == 32)=true:=by
    simp only[bk_]
    intro e
    apply hc
    apply UInt8.toNat_inj.1
    show c.toNat=32
    omega
   rw[Z2 h0',←h2]
   have:bl (c :: l)=c :: l:=au_ (by simp[Bn,hc])
   rw[this]
theorem L9 {s l:ag} {b:Bool} {ns:List ab} (hs:s.length≤1000) (h:l <:+ s):jZ (ba s) (bU s l) b ns=some ((),((ba s,bU s (bl l),b,ns,()),())):=by
 rw[Fj]
 exact FV hs l h
theorem aj {a b c:ag} (h:a <:+ b) (k:b <:+ c):a <:+ c:=List.IsSuffix.trans h k
theorem gh (n:Nat) (l:ag):l.drop n <:+ l:=List.drop_suffix n l
theorem i8 {s l w:ag} {b:Bool} {ns:List ab} (hs:s.length≤1000) (hw:w.length≤1000) (h:l <:+ s) :
  dX (ba w) (ba s) (bU s l) b ns=some (((!b && w.isPrefixOf (bl l)),()),((ba s,bU s (if(!b && w.isPrefixOf (bl l))=true then(bl l).drop w.length else bl l),b,ns,()),())):=by
 have hb:=aj (ay l) h
 rw[Nq,L9 hs h]
 simp only[Z1]
 cases b with
 | true=>rfl
 | false =>
  simp only[Z5,ad_,as_,bj_,az]
  generalize bl l=m at hb
  obtain⟨pre,h1,h2⟩:=oe hb
  have hl:pre.length+m.length=s.length:=by rw[h1]; simp
  rw[h2,wr (by omega) (by omega)]
  by_cases hm:w.length≤m.length
  ·rw[aL (by omega),show(pre.length:Int)+(w.length:Int)=((pre.length+w.length:Nat):Int) by omega,xr (by omega) (by omega),dn]
   have e:(s.take (pre.length+w.length)).drop pre.length=m.take w.length:=by
    rw[h1,fg_,gf_]
    simp
   rw[e]
   have e2:decide (m.take w.length=w)=w.isPrefixOf m:=by
    rw[ci_,Z9,dg_,gs_]
    exact eq_comm
   rw[e2]
   cases w.isPrefixOf m with
   | true =>
    simp only[aj_,Z5,ad_,al_]
    have e5:((pre.length+w.length:Nat):Int)=bU s (m.drop w.length):=by
     unfold bU
     rw[dv_]
     omega
    rw[e5]
   | false =>
    simp only[as_,al_,Z5,ad_]
    rw[h2]
  ·rw[aQ (by omega)]
   have e2:w.isPrefixOf m=false:=by
    rw[bt_]
    intro hp
    exact hm (Cc hp)
   rw[e2]
   simp only[Z5,ad_]
   rw[h2]
theorem yS {l:ag} {b:Bool} {ns:List ab} (hl:l.length≤1000):j6 (ba l) b ns=some ((ba ((bl l).takeWhile aP),()),((ba ((bl l).dropWhile aP),ns,b,()),())):=by
 have:=aJ (ay l)
 obtain⟨d1,d2,d3⟩:=Bh aP (bl l)
 rw[Fo,mP]
 simp only[Z1]
 rw[vZ _ _ (by decide +kernel),Yo]
 simp only[Z1,az]
 rw[wr (by omega) (by omega),show((bl l).length:Int) - (((bl l).dropWhile aP).length:Int)=(((bl l).length - ((bl l).dropWhile aP).length:Nat):Int) by omega,FL (by omega),fB (by omega),d1,d2]
theorem Iv {s pre l:ag} {w:Nat} {b:Bool} {ns:List ab} (h:s=pre++l) (hw:w≤pre.length) :
  (uH (ba s) (w:Int) (pre.length:Int) fun y6=>(some ((y6,()),((ba s,(pre.length:Int),b,ns,()),()))))=(some ((ba (pre.drop w),()),((ba s,bU s l,b,ns,()),())):Option ((Z0×Unit)×(ld×Unit))):=by
 have hl:pre.length+l.length=s.length:=by rw[h]; simp
 rw[xr hw (by omega)]
 congr 3
 ·congr 1
  rw[h,gm_ rfl]
 ·unfold bU
  congr 3
  omega
theorem FW {s:ag} {b:Bool} {ns:List ab} (hs:s.length≤1000) {w:Nat} : ∀(l pre:ag),s=pre++l→w≤pre.length→d7 (w:Int) (ba s) (pre.length:Int) b ns=some ((ba (pre.drop w++l.takeWhile aP),()),((ba s,bU s (l.dropWhile aP),b,ns,()),()))
 | [],pre,h,hw=>by
  have hl:pre.length=s.length:=by rw[h]; simp
  rw[tU,aL (by rw[az]; omega)]
  simpa using Iv (b:=b) (ns:=ns) h hw
 | y :: l,pre,h,hw=>by
  have hl:pre.length < s.length:=by rw[h]; simp
  have ih:=FW (b:=b) (ns:=ns) hs (w:=w) l (pre++[y]) (by rw[h]; simp) (by rw[Z7]; omega)
  rw[show((pre++[y]).length:Int)=(pre.length:Int)+1 by simp,List.drop_append_of_le_length hw] at ih
  have he:=Iv (b:=b) (ns:=ns) h hw
  rw[tU,aQ (by rw[az]; omega)]
  simp only[kZ h]
  rw[wr (by omega) (by omega)]
  have h36:((y.toNat:Int) == 36)=decide (y=36):=by
   rw[ci_,bk_,Z9]
   constructor
   ·intro e
    apply UInt8.toNat_inj.1
    show y.toNat=36
    omega
   ·rintro rfl
    rfl
  rw[h36]
  cases hy:aP y with
  | true =>
   have e1:(y :: l).takeWhile aP=y :: l.takeWhile aP:=List.takeWhile_cons_of_pos hy
   have e2:(y :: l).dropWhile aP=l.dropWhile aP:=fb_ hy
   rw[e1,e2]
   have e3:pre.drop w++y :: l.takeWhile aP=pre.drop w++[y]++l.takeWhile aP:=by simp
   rw[e3,←ih]
   simp only[aP,eL,dy,Bool.or_eq_true,Z8,Z9] at hy
   by_cases c1:65≤y.toNat
   ·rw[aQ (by omega)]
    by_cases c2:y.toNat≤90
    ·rw[aQ (by omega)]
    ·rw[aL (by omega),aQ (by omega),aL (by omega)]
     exfalso
     rcases hy with(hy | hy) | rfl
     ·omega
     ·omega
     ·exact ay_ c1 (by decide)
   ·rw[aL (by omega)]
    by_cases c3:48≤y.toNat
    ·rw[aQ (by omega)]
     by_cases c4:y.toNat≤57
     ·rw[aQ (by omega)]
     ·rw[aL (by omega)]
      exfalso
      rcases hy with(hy | hy) | rfl
      ·omega
      ·omega
      ·exact ay_ c3 (by decide)
    ·rw[aL (by omega)]
     have:y=36:=by
      rcases hy with(hy | hy) | hy
      ·omega
      ·omega
      ·exact hy
     rw[aQ this]
  | false =>
   have e1:(y :: l).takeWhile aP=[]:=em_ (by rw[hy]; decide)
   have e2:(y :: l).dropWhile aP=y :: l:=au_ (by rw[hy]; decide)
   rw[e1,e2,bz_,←he]
   simp only[aP,eL,dy,Bool.or_eq_false_iff,gb_,decide_eq_false_iff_not] at hy
   obtain⟨⟨k1,k2⟩,k3⟩:=hy
   by_cases c1:65≤y.toNat
   ·rw[aQ (by omega),aL (by omega),aQ (by omega),aL (by omega),aL k3]
   ·rw[aL (by omega)]
    by_cases c3:48≤y.toNat
    ·rw[aQ (by omega),aL (by omega),aL k3]
    ·rw[aL (by omega),aL k3]
theorem D6 {s l:ag} {b:Bool} {ns:List ab} (hs:s.length≤1000) (h:l <:+ s):mt (ba s) (bU s l) b ns=some ((ba (l.takeWhile aP),()),((ba s,bU s (l.dropWhile aP),b,ns,()),())):=by
 obtain⟨pre,h1,h2⟩:=oe h
 rw[Jq,h2,FW hs l pre h1 (ag_ _)]
 simp
def cz (k:Int):Int:=if k≥6 then 1 else if k=5 then 2 else if k≥3 then 4 else 3
theorem wb (k:Int):tF k=some ((cz k,()),()):=by
 rw[Nu]
 unfold cz
 simp only[Z9,bk_]
 repeat' split
 all_goals first | rfl | omega
theorem Iw {k:Int} (h0:1≤k) (h1:k≤11):AQ k=some ((cz k,()),()):=by
 rw[SR]
 unfold cz
 simp only[bk_]
 repeat' split
 all_goals first | rfl | omega
abbrev uh:List Int:=[7,9,11,6,8,10,1,2,3,4,5]
def zH (L:Int) (m:ag) (k:Int):Bool:=decide (cz k=L) && (du k).isPrefixOf m
theorem xz (k:Int):(du k).length≤2:=by
 unfold du
 have : ∀ i:Nat,(([[],[43],[45],[42],[47],[38],[61],[60,62],[60],[60,61],[62],[62,61]]:List ag).getD i []).length≤2:=by
  intro i
  by_cases hi:i < 12
  ·have h : ∀ j:Fin 12,(([[],[43],[45],[42],[47],[38],[61],[60,62],[60],[60,61],[62],[62,61]]:List ag).getD j.val []).length≤2:=by decide
   exact h ⟨i,hi⟩
  ·rw[List.getD_eq_getElem?_getD,List.getElem?_eq_none (by simp; omega)]
   simp
 exact this _
section
variable {s:ag} {ns:List ab} {L:Int}
def yT (s l l':ag) (ns:List ab):Option Int→Option ((Int×Unit)×(ld×Unit))
 | some k=>some ((k,()),((ba s,bU s ((bl l).drop (du k).length),false,ns,()),()))
 | none=>some ((0,()),((ba s,bU s l',false,ns,()),()))
theorem Yr {pre ys:List Int} {k:Int} (h:uh=pre++k :: ys):aw_ uh (Int.toNat (pre.length:Int)) 0=k:=by rw[h]; exact wD
theorem Ix {k:Int} (h:k∈uh):1≤k∧k≤11:=by
 have : ∀ k∈uh,1≤k∧k≤11:=by decide
 exact this k h
theorem Bo (hs:s.length≤1000) : ∀(ys pre:List Int) (l:ag),uh=pre++ys→l <:+ s → ∃ l',(l'=l∨l'=bl l)∧lX L (pre.length:Int) (ba s) (bU s l) false uh ns=yT s l l' ns (ys.find? (zH L (bl l)))
 | [],pre,l,h,hl=>by
  refine⟨l,.inl rfl,?_⟩
  rw[va,aL (ci h)]
  rfl
 | k :: ys,pre,l,h,hl=>by
  have hk:=Ix (k:=k) (by rw[h]; simp)
  rw[va,aQ (cr h),nq h,Yr h,wb]
  simp only[Z1,cy_,bk_]
  by_cases hL:cz k=L
  ·rw[Z3 hL,nq h,sy (by omega) (by omega)]
   simp only[Z1]
   have:=xz k
   rw[i8 hs (by omega) hl]
   simp only[Z1,as_,bj_]
   cases hp:(du k).isPrefixOf (bl l) with
   | true =>
    simp only[al_,zH,hL,bv_,bj_,hp]
    rw[nq h]
    exact⟨l,.inl rfl,rfl⟩
   | false =>
    simp only[Z5,ad_,zH,hL,bv_,bj_,hp]
    rw[bi h (by decide)]
    obtain⟨l',h1,h2⟩:=Bo hs ys (pre++[k]) (bl l) (aU h) (aj (ay l) hl)
    rw[dD] at h1 h2
    refine⟨l',.inr (by simpa using h1),?_⟩
    rw[h2]
    unfold yT
    rw[dD]
  ·rw[Z2 hL,bi h (by decide)]
   obtain⟨l',h1,h2⟩:=Bo hs ys (pre++[k]) l (aU h) hl
   refine⟨l',h1,?_⟩
   rw[h2]
   simp[zH,hL]
theorem Ma (hs:s.length≤1000) : ∀(ys pre:List Int) (l:ag),uh=pre++ys→l <:+ s → ∃ l',(l'=l∨l'=bl l)∧qO L (pre.length:Int) (ba s) (bU s l) false ns uh=yT s l l' ns (ys.find? (zH L (bl l)))
 | [],pre,l,h,hl=>by
  refine⟨l,.inl rfl,?_⟩
  rw[xg,aL (ci h)]
  rfl
 | k :: ys,pre,l,h,hl=>by
  have hk:=Ix (k:=k) (by rw[h]; simp)
  rw[xg,aQ (cr h),nq h,Yr h,wb]
  simp only[Z1,cy_,bk_]
  by_cases hL:cz k=L
  ·rw[Z3 hL,nq h,sy (by omega) (by omega)]
   simp only[Z1]
   have:=xz k
   rw[i8 hs (by omega) hl]
   simp only[Z1,as_,bj_]
   cases hp:(du k).isPrefixOf (bl l) with
   | true =>
    simp only[al_,zH,hL,bv_,bj_,hp]
    rw[nq h]
    exact⟨l,.inl rfl,rfl⟩
   | false =>
    simp only[Z5,ad_,zH,hL,bv_,bj_,hp]
    rw[bi h (by decide)]
    obtain⟨l',h1,h2⟩:=Bo (L:=L) (ns:=ns) hs ys (pre++[k]) (bl l) (aU h) (aj (ay l) hl)
    rw[dD] at h1 h2
    refine⟨l',.inr (by simpa using h1),?_⟩
    rw[h2]
    unfold yT
    rw[dD]
  ·rw[Z2 hL,bi h (by decide)]
   obtain⟨l',h1,h2⟩:=Ma hs ys (pre++[k]) l (aU h) hl
   refine⟨l',h1,?_⟩
   rw[h2]
   simp[zH,hL]
end
theorem FX {α:Type} {p q:α→Bool} : ∀ {l:List α},(∀ x∈l,p x=q x)→l.find? p=l.find? q
 | [],_=>rfl
 | x :: l,h=>by
  rw[cy_,cy_,h x (by simp),FX (fun y hy=>h y (List.mem_cons_of_mem _ hy))]
def pS (k:Int) (y:UInt8) (a b:Bool):Bool:=if k=7 then decide (y=60) && a else if k=9 then decide (y=60) && b else if k=11 then decide (y=62) && b else if k=6 then decide (y=61) else if k=8 then decide (y=60) else if k=10 then decide (y=62) else if k=1 then decide (y=43) else if k=2 then decide (y=45) else if k=3 then decide (y=42) else if k=4 then decide (y=47) else decide (y=38)
theorem Zc (y:UInt8) (t:ag) : ∀ k∈uh,(du k).isPrefixOf (y :: t)=pS k y (decide (t.head? = some 62)) (decide (t.head? = some 61)):=by
 intro k hk
 have:k=7∨k=9∨k=11∨k=6∨k=8∨k=10∨k=1∨k=2∨k=3∨k=4∨k=5:=by simpa using hk
 rcases this with rfl | rfl | rfl | rfl | rfl | rfl | rfl | rfl | rfl | rfl | rfl
 ·exact D1 y t 60 62
 ·exact D1 y t 60 61
 ·exact D1 y t 62 61
 ·exact gW y t 61
 ·exact gW y t 60
 ·exact gW y t 62
 ·exact gW y t 43
 ·exact gW y t 45
 ·exact gW y t 42
 ·exact gW y t 47
 ·exact gW y t 38
def fS (L:Int) (y:UInt8) (a b:Bool):Prop:=uh.find? (fun k=>decide (cz k=L) && pS k y a b)=if gO y a b≠0∧cz (gO y a b)=L then some (gO y a b) else none
instance (L:Int) (y:UInt8) (a b:Bool):Decidable (fS L y a b):=by unfold fS; infer_instance
theorem Ys (y:UInt8) : ∀ a b:Bool,fS 1 y a b∧fS 2 y a b∧fS 3 y a b∧fS 4 y a b :=
 pw (p:=fun y => ∀ a b:Bool,fS 1 y a b∧fS 2 y a b∧fS 3 y a b∧fS 4 y a b) (by decide +kernel) y
theorem Vy {L:Int} (hL:L=1∨L=2∨L=3∨L=4) (m:ag):uh.find? (zH L m)=if d8 m≠0∧cz (d8 m)=L then some (d8 m) else none:=by
 cases m with
 | nil =>
  have : ∀ k∈uh,(du k).isPrefixOf ([]:ag)=false:=by decide
  have h0:d8 ([]:ag)=0:=rfl
  rw[h0,Z2 (by simp),List.find?_eq_none]
  intro k hk
  unfold zH
  rw[this k hk,Bool.and_false]
  decide
 | cons y t =>
  have e:uh.find? (zH L (y :: t))=uh.find? (fun k=>decide (cz k=L) && pS k y (decide (t.head? = some 62)) (decide (t.head? = some 61))):=FX fun k hk=>by
   unfold zH
   rw[Zc y t k hk]
  rw[e]
  obtain⟨h1,h2,h3,h4⟩:=Ys y (decide (t.head? = some 62)) (decide (t.head? = some 61))
  rcases hL with rfl | rfl | rfl | rfl
  ·exact h1
  ·exact h2
  ·exact h3
  ·exact h4
theorem Yt {s l:ag} {ns:List ab} {L:Int} (hs:s.length≤1000) (hL:L=1∨L=2∨L=3∨L=4) (h:l <:+ s) :
  ∃ l',(l'=l∨l'=bl l)∧DC L (ba s) (bU s l) false ns=yT s l l' ns (if d8 (bl l)≠0∧cz (d8 (bl l))=L then some (d8 (bl l)) else none):=by
 rw[Nv,←Vy hL]
 exact Ma hs uh [] l rfl h
theorem xA {x:ab} {l:ag} {b:Bool} {ns:List ab} (hn:ns.length≤60) :
  ∃ i,aI x (ba l) b ns=some ((i,()),((ba l,(if b=false∧ns.length < 60 then ns++[x] else ns),(b || decide (60≤ns.length)),()),()))∧(b=false→ns.length < 60→i=(ns.length:Int)):=by
 rw[GV]
 cases b with
 | true=>exact⟨_,rfl,fun h=>by cases h⟩
 | false =>
  simp only[Z5,ad_,true_and,Bool.false_or]
  by_cases h:ns.length < 60
  ·have e1:decide ((ns.length:Int)≥60)=false:=bm_ (by omega)
   have e2:decide (60≤ns.length)=false:=bm_ (by omega)
   rw[e1,e2,Z3 h]
   simp only[as_,al_]
   have hl:(ns++[x]).length=ns.length+1:=by simp
   rw[bJ (by simp only[Z4]; omega),wr (by omega) (by omega)]
   exact⟨_,rfl,fun _ _=>by omega⟩
  ·have e1:decide ((ns.length:Int)≥60)=true:=ba_ (by omega)
   have e2:decide (60≤ns.length)=true:=ba_ (by omega)
   rw[e1,e2,Z2 h]
   exact⟨_,rfl,fun _ h'=>ay_ h' h⟩
theorem G7 {x:ab} {s:ag} {a:Int} {b:Bool} {ns:List ab} (hn:ns.length≤1000) (hx:x.2.2.1.2.2.1.size≤9223372036854775807) :
  cm x (ba s) a b ns=some (((ns.length:Int),()),((ba s,a,(b || decide (60≤ns.length) || !bR x),ns++[x],()),())):=by
 rw[Lp,bJ (by simp only[Z4]; omega)]
 have e:IntKind.i64.wrap (((ns++[x]).length:Int) - 1)=(ns.length:Int):=by
  rw[Z7,Z4,wr (by omega) (by omega)]
  omega
 rw[e,gI hx]
 simp only[Z1]
 by_cases h:60≤ns.length
 ·rw[aQ (by rw[Z7,Z4]; omega)]
  simp[h]
 ·rw[aL (by rw[Z7,Z4]; omega)]
  cases bR x <;> simp[h]
theorem G8 (c:UInt8) (t:ag) : ∀ pre:ag,c ∉ pre→Lib.indexByte (pre++c :: t) c=(pre.length:Int)
 | [],_=>by simp[Lib.indexByte]
 | b :: pre,h=>by
  simp only[bd_,not_or] at h
  have hb : ¬b=c:=fun e=>h.1 e.symm
  have ih:=G8 c t pre h.2
  simp only[ck_,Lib.indexByte,ih]
  have : ¬((pre.length:Int) = -1):=by omega
  simp[hb,this]
theorem Mb (c:UInt8) : ∀ pre:ag,c ∉ pre→Lib.indexByte pre c = -1
 | [],_=>rfl
 | b :: pre,h=>by
  simp only[bd_,not_or] at h
  have hb : ¬b=c:=fun e=>h.1 e.symm
  simp only[Lib.indexByte,Mb c pre h.2]
  simp[hb]
theorem Xb {c:UInt8} {pre t:ag} (h:c ∉ pre):Lib.cut (pre++c :: t) [c]=(pre,t,true):=by
 unfold Lib.cut
 rw[Lib.index_one,G8 c t pre h,Z3 (by omega)]
 simp only[dd_,Z4,Prod.mk.injEq,and_true]
 refine⟨gm_ rfl,?_⟩
 have:pre++c :: t=(pre++[c])++t:=by simp
 rw[this,ft_ (by simp)]
theorem Vz {c:UInt8} {s:ag} (h:c ∉ s):Lib.cut s [c]=(s,[],false):=by
 unfold Lib.cut
 rw[Lib.index_one,Mb c s h,Z2 (by omega)]
theorem Xc {x c:ag} (hx:x.length < 4294967281):strings_Cut (ba x) (ba c)=some ((ba (Lib.cut x c).1,ba (Lib.cut x c).2.1,(Lib.cut x c).2.2,()),()):=by
 rw[GW]
 show(if(ba x).size < 4294967281 then some (((⟨(Lib.cut (lb (ba x)) (lb (ba c))).1.toArray⟩:Z0),(⟨(Lib.cut (lb (ba x)) (lb (ba c))).2.1.toArray⟩:Z0),(Lib.cut (lb (ba x)) (lb (ba c))).2.2,()),()) else none)=_
 rw[Z3 (by rw[az]; exact hx),dC,dC]
theorem D7 (c:UInt8) : ∀ s:ag,c∈s → ∃ pre t,s=pre++c :: t∧c ∉ pre
 | b :: s,h=>by
  by_cases hb:b=c
  ·exact⟨[],s,by rw[hb]; rfl,by simp⟩
  ·obtain⟨pre,t,h1,h2⟩:=D7 c s (by rcases bd_.1 h with e | e; exact ay_ e.symm hb; exact e)
   exact⟨b :: pre,t,by rw[h1]; rfl,by simp only[bd_,not_or]; exact⟨Ne.symm hb,h2⟩⟩
def qt:ag→Option (ag×ag)
 | []=>none
 | c :: l=>if c=34 then(match l with
   | []=>some ([],[])
   | d :: l'=>if d=34 then(qt l').map (fun p=>(34 :: p.1,p.2)) else some ([],d :: l'))
  else(qt l).map fun p=>(c :: p.1,p.2)
theorem yU {c:UInt8} {l:ag} (h:c≠34):qt (c :: l)=(qt l).map fun p=>(c :: p.1,p.2):=by
 rw[qt.eq_def]
 simp only[Z2 h]
theorem FY:qt [34]=some ([],[]):=by
 rw[qt.eq_def]
 rfl
theorem FZ {l:ag}:qt (34 :: 34 :: l)=(qt l).map fun p=>(34 :: p.1,p.2):=by
 rw[qt.eq_def]
 rfl
theorem Cd {d:UInt8} {l:ag} (h:d≠34):qt (34 :: d :: l)=some ([],d :: l):=by
 rw[qt.eq_def]
 simp only[al_,Z2 h]
theorem Mc (l:ag) : ∀ pre:ag,(34:UInt8) ∉ pre→qt (pre++l)=(qt l).map fun p=>(pre++p.1,p.2)
 | [],_=>by simp
 | b :: pre,h=>by
  simp only[bd_,not_or] at h
  have hb : ¬b=34:=fun e=>h.1 e.symm
  rw[ck_,yU hb,Mc l pre h.2,Option.map_map]
  rfl
theorem Xd {s:ag} (h:(34:UInt8) ∉ s):qt s=none:=by
 have:=Mc [] s h
 rw[bz_] at this
 rw[this]
 rfl
theorem Tj : ∀(l t r:ag),qt l=some (t,r)→r <:+ l∧t.length≤l.length∧r.length < l.length:=by
 intro l
 induction hn:l.length using Nat.strongRecOn generalizing l with
 | ind n ih =>
  intro t r h
  subst hn
  cases l with
  | nil=>cases h
  | cons c l =>
   by_cases hc:c=34
   ·subst hc
    cases l with
    | nil =>
     rw[FY] at h
     cases h
     exact⟨⟨[34],rfl⟩,by simp,by simp⟩
    | cons d l' =>
     by_cases hd:d=34
     ·subst hd
      rw[FZ,ct_] at h
      obtain⟨⟨t',r'⟩,h1,h2⟩:=h
      cases h2
      obtain⟨k1,k2,k3⟩:=ih l'.length (by simp only[aa_]; omega) l' rfl t' r' h1
      refine⟨aj k1 ⟨[34,34],rfl⟩,?_,?_⟩
      ·simp only[aa_]; omega
      ·simp only[aa_]; omega
     ·rw[Cd hd] at h
      cases h
      exact⟨⟨[34],rfl⟩,by simp,by simp⟩
   ·rw[yU hc,ct_] at h
    obtain⟨⟨t',r'⟩,h1,h2⟩:=h
    cases h2
    obtain⟨k1,k2,k3⟩:=ih l.length (by simp) l rfl t' r' h1
    refine⟨aj k1 ⟨[c],rfl⟩,?_,?_⟩
    ·simp only[aa_]; omega
    ·simp only[aa_]; omega
abbrev nC (v:ae):ab:=(1,0,v,((0,0,()),false,false,()),((0,0,()),false,false,()),([]:(List Int)),())
noncomputable def iQ (out:ag) (r:Z0) (b:Bool) (ns:List ab):Option (ag×ag)→Option ((Int×Unit)×(p6×Unit))
 | none=>some ((-1,()),((r,ns,true,()),()))
 | some p=>bS (2,0,ba (out++p.1),()) (ba p.2) b ns
theorem Ce {F:Option ((Int×Unit)×(p6×Unit))}:(F.bind fun z3=>(some ((z3.1.1,()),(z3.2.1,()))))=F:=by
 cases F with
 | none=>rfl
 | some z=>rfl
theorem hY {F:Option ((Int×Unit)×(ld×Unit))}:(F.bind fun z3=>(some ((z3.1.1,()),(z3.2.1,()))))=F:=by
 cases F with
 | none=>rfl
 | some z=>rfl
theorem Md {r:Z0} {b:Bool} {ns:List ab} : ∀(x out:ag),out.length+x.length≤1000→jT (ba out) (ba x) r b ns=iQ out r b ns (qt x):=by
 intro x
 induction hn:x.length using Nat.strongRecOn generalizing x with
 | ind n ih =>
  intro out hl
  rw[yI,show(⟨#[34]⟩:Z0)=ba [34] from rfl,Xc (by omega)]
  simp only[Z1]
  by_cases hm:(34:UInt8)∈x
  ·obtain⟨pre,t,h1,h2⟩:=D7 34 x hm
   have hx:x.length=pre.length+t.length+1:=by rw[h1]; simp; omega
   rw[h1,Xb h2,Mc _ pre h2]
   simp only[aj_,Z5,ad_]
   rw[bB (by omega),ru t [34] (by omega)]
   simp only[Z1,Ce]
   cases t with
   | nil =>
    rw[FY,show([34]:ag).isPrefixOf ([]:ag)=false from rfl]
    simp[iQ]
   | cons d l' =>
    by_cases hd:d=34
    ·subst hd
     rw[aa_] at hx
     have e1:([34]:ag).isPrefixOf (34 :: l')=true:=by rw[gW]; rfl
     rw[e1]
     simp only[aj_,Z5,ad_]
     rw[bB (by simp only[Z7,Z4]; omega),show(1:Int)=((1:Nat):Int) from rfl,fB (by simp)]
     simp only[bh_,ce_]
     rw[ih l'.length (by omega) l' rfl (out++pre++[34]) (by simp only[Z7,Z4]; omega)]
     rw[FZ]
     cases qt l' with
     | none=>rfl
     | some p=>simp[iQ]
    ·have e1:([34]:ag).isPrefixOf (d :: l')=false:=by rw[gW]; simp[hd]
     rw[e1]
     simp only[as_,al_]
     rw[Cd hd]
     simp[iQ]
  ·rw[Vz hm,Xd hm]
   rfl
theorem yV {l:ag} {b:Bool} {ns:List ab} (hl:l.length≤900):j0 (ba (34 :: l)) b ns=iQ [] (ba (34 :: l)) b ns (qt l):=by
 rw[Cw,show(1:Int)=((1:Nat):Int) from rfl,fB (by simp)]
 exact Md l [] (by simp; omega)
noncomputable def sQ (acc s:ag) (b:Bool) (ns:List ab):Option (ag×ag)→Option ((Int×Unit)×(ld×Unit))
 | none=>some ((0,()),((ba s,bU s [],true,ns,()),()))
 | some p=>cm (nC (2,0,ba (acc++p.1),())) (ba s) (bU s p.2) b ns
theorem Q5 {s:ag} {b:Bool} {ns:List ab} (hs:s.length≤900) : ∀(l acc:ag),l <:+ s→acc.length+l.length≤1000→kQ (ba acc) (ba s) (bU s l) b ns=sQ acc s b ns (qt l):=by
 intro l
 induction hn:l.length using Nat.strongRecOn generalizing l with
 | ind n ih =>
  intro acc h ha
  subst hn
  rw[DU]
  cases l with
  | nil =>
   rw[aL (by rw[az]; unfold bU; simp)]
   rfl
  | cons c l =>
   obtain⟨pre,h1,h2⟩:=oe h
   have hl:pre.length+l.length+1=s.length:=by rw[h1]; simp; omega
   rw[aa_] at ha
   have h':l <:+ s:=aj ⟨[c],rfl⟩ h
   have e1:(pre.length:Int)+1=bU s l:=by
    unfold bU
    omega
   rw[h2,aQ (by rw[az]; omega),kZ h1,wr (by omega) (by omega)]
   by_cases hc:c=34
   ·subst hc
    have e34:(((34:UInt8).toNat:Int) != 34)=false:=rfl
    rw[e34,e1]
    simp only[Z5,ad_,hY]
    cases l with
    | nil =>
     rw[FY,aQ (by rw[az]; unfold bU; simp)]
     simp[sQ]
    | cons d l' =>
     obtain⟨D1,k1,k2⟩:=oe h'
     have hl2:D1.length+l'.length+1=s.length:=by rw[k1]; simp; omega
     rw[aa_] at ha
     have h'':l' <:+ s:=aj ⟨[d],rfl⟩ h'
     have e2:(D1.length:Int)+1=bU s l':=by
      unfold bU
      omega
     rw[k2,aL (by rw[az]; omega),kZ k1]
     by_cases hd:d=34
     ·subst hd
      rw[e34,FZ]
      simp only[Z5,ad_]
      rw[show(⟨#[34]⟩:Z0)=ba [34] from rfl,bB (by simp only[Z4]; omega),wr (by omega) (by omega),e2,ih l'.length (by simp only[aa_]; omega) l' rfl (acc++[34]) h'' (by simp only[Z7,Z4]; omega)]
      cases qt l' with
      | none=>rfl
      | some p=>simp[sQ]
     ·have hd':((d.toNat:Int) != 34)=true:=by
       simp only[bne_iff_ne,ne_eq]
       intro e
       apply hd
       apply UInt8.toNat_inj.1
       show d.toNat=34
       omega
      rw[hd',Cd hd]
      simp only[al_]
      rw[←k2]
      simp[sQ]
   ·have hc':((c.toNat:Int) != 34)=true:=by
     simp only[bne_iff_ne,ne_eq]
     intro e
     apply hc
     apply UInt8.toNat_inj.1
     show c.toNat=34
     omega
    rw[hc']
    simp only[al_]
    rw[show(pre.length:Int)+1=((pre.length+1:Nat):Int) by omega,xr (by omega) (by omega)]
    have e3:(s.take (pre.length+1)).drop pre.length=[c]:=by
     rw[h1,fg_,gf_]
     simp
    rw[e3,bB (by simp only[Z4]; omega),show((pre.length+1:Nat):Int)=bU s l by omega,ih l.length (by simp) l rfl (acc++[c]) h' (by simp only[Z7,Z4]; omega)]
    rw[yU hc]
    cases qt l with
    | none=>rfl
    | some p=>simp[sQ]
theorem VA {s l:ag} {b:Bool} {ns:List ab} (hs:s.length≤900) (h:l <:+ s):yo (ba s) (bU s l) b ns=sQ [] s b ns (qt l):=by
 rw[Jp]
 have:=aJ h
 exact Q5 hs l [] h (by simp; omega)
def dz (n:Int):ag:=(lb (df n)).drop 1
abbrev pB:List Int:=[1,2,3,4,5]
def gX (l:ag) (n:Int):Bool:=(dz n).isPrefixOf l
theorem Tk {pre ys:List Int} {k:Int} (h:pB=pre++k :: ys):k=(pre.length:Int)+1∧1≤k∧k≤5∧df k=ba (35 :: dz k)∧(dz k).length≤10:=by
 have h1:pB[pre.length]? = some k:=by rw[h]; simp
 have hl:pre.length < 5:=by
  have:(pB).length=5:=rfl
  have h2:=congrArg ac_ h
  simp at h2
  omega
 have : ∀ i:Fin 5,∀ k,pB[i.val]? = some k→k=(i.val:Int)+1:=by
  intro i k h
  have : ∀ i:Fin 5,pB[i.val]? = some ((i.val:Int)+1):=by decide
  rw[this i] at h
  exact(bl_ h).symm
 have e:=this ⟨pre.length,hl⟩ k h1
 simp only at e
 have f : ∀ i:Fin 5,df ((i.val:Int)+1)=ba (35 :: dz ((i.val:Int)+1))∧(dz ((i.val:Int)+1)).length≤10:=by decide +kernel
 have:=f ⟨pre.length,hl⟩
 simp only at this
 rw[←e] at this
 exact⟨e,by omega,by omega,this.1,this.2⟩
theorem Iy {deep:Int} {l:ag} {b:Bool} {ns:List ab} (hl:l.length≤900) : ∀(ys pre:List Int),pB=pre++ys→dS deep ((pre.length:Int)+1) (ba (35 :: l)) b ns=match ys.find? (gX l) with
  | some n=>bS (vE n) (ba (l.drop (dz n).length)) b ns
  | none=>dS deep 6 (ba (35 :: l)) b ns
 | [],pre,h=>by
  have:pre.length=5:=by
   rw[bz_] at h
   rw[←h]
   rfl
  rw[this]
  rfl
 | k :: ys,pre,h=>by
  obtain⟨e1,e2,e3,e4,e5⟩:=Tk h
  rw[←e1,rn,aQ e3,rK (by omega) e3]
  simp only[Z1]
  rw[e4,rx _ _ (by rw[aa_]; omega)]
  simp only[Z1,cy_]
  have e6:(35 :: dz k:ag).isPrefixOf (35 :: l)=gX l k:=by simp[gX]
  rw[e6]
  cases hp:gX l k with
  | true =>
   simp only[al_,fN,Z1,Ce,aa_,bh_]
  | false =>
   simp only[Z5,ad_]
   rw[wr (by omega) (by omega)]
   have:=Iy (deep:=deep) (b:=b) (ns:=ns) hl ys (pre++[k]) (aU h)
   rw[Z7,Z4] at this
   rw[show k+1=((pre.length+1:Nat):Int)+1 by omega]
   exact this
theorem Iz {s l:ag} {b:Bool} {ns:List ab} (hs:s.length≤900) (hl:l <:+ s) : ∀(ys pre:List Int),pB=pre++ys→jn ((pre.length:Int)+1) (ba s) (bU s l) b ns=match ys.find? (gX l) with
  | some n=>cm (nC (vE n)) (ba s) (bU s (l.drop (dz n).length)) b ns
  | none=>some ((0,()),((ba s,bU s l,true,ns,()),()))
 | [],pre,h=>by
  have:pre.length=5:=by
   rw[bz_] at h
   rw[←h]
   rfl
  rw[this,tW,aL (by decide)]
  rfl
 | k :: ys,pre,h=>by
  obtain⟨e1,e2,e3,e4,e5⟩:=Tk h
  obtain⟨q,h1,h2⟩:=oe hl
  have hq:q.length+l.length=s.length:=by rw[h1]; simp
  rw[←e1,tW,aQ e3,yM (by omega) e3]
  simp only[Z1]
  rw[e4,show(1:Int)=((1:Nat):Int) from rfl,fB (by simp)]
  simp only[bh_,ce_,az,cy_]
  have ih:=Iz (b:=b) (ns:=ns) hs hl ys (pre++[k]) (aU h)
  rw[Z7,Z4,show((pre.length+1:Nat):Int)+1=k+1 by omega] at ih
  have hw:IntKind.i64.wrap (k+((1:Nat):Int))=k+1:=wr (by omega) (by omega)
  rw[hw,h2,wr (by omega) (by omega)]
  by_cases hm:(dz k).length≤l.length
  ·rw[aQ (by omega),show(q.length:Int)+((dz k).length:Int)=((q.length+(dz k).length:Nat):Int) by omega,xr (by omega) (by omega),dn]
   have e:(s.take (q.length+(dz k).length)).drop q.length=l.take (dz k).length:=by
    rw[h1,fg_,gf_]
    simp
   have e7:decide (l.take (dz k).length=dz k)=gX l k:=by
    unfold gX
    rw[ci_,Z9,dg_,gs_]
    exact eq_comm
   rw[e,e7]
   cases hp:gX l k with
   | true =>
    simp only[al_,C4,Z1,hY]
    congr 1
    unfold bU
    rw[dv_]
    omega
   | false =>
    simp only[Z5,ad_]
    rw[←h2]
    exact ih
  ·rw[aL (by omega)]
   have hp:gX l k=false:=by
    rw[bt_]
    intro hp
    exact hm (Cc hp)
   rw[hp,←h2]
   exact ih
def dK (k:Int):ag:=([[],[83,85,77],[77,73,78],[77,65,88],[67,79,85,78,84],[73,70],[65,78,68],[79,82],[78,79,84],[65,66,83],[76,69,78]]:List ag).getD k.toNat []
abbrev l8:List Int:=[1,2,3,4,5,6,7,8,9,10]
theorem Tl (k:Fin 11):aw_ ([(⟨#[]⟩:Z0),(⟨#[83,85,77]⟩:Z0),(⟨#[77,73,78]⟩:Z0),(⟨#[77,65,88]⟩:Z0),(⟨#[67,79,85,78,84]⟩:Z0),(⟨#[73,70]⟩:Z0),(⟨#[65,78,68]⟩:Z0),(⟨#[79,82]⟩:Z0),(⟨#[78,79,84]⟩:Z0),(⟨#[65,66,83]⟩:Z0),(⟨#[76,69,78]⟩:Z0)]:(List Z0)) k.val (⟨#[]⟩:Z0)=ba (dK (k.val:Int)):=by
 revert k
 decide +kernel
theorem Me {k:Int} (h0:0≤k) (h1:k≤10):JW k=some ((ba (dK k),()),()):=by
 rw[Va,dx h0 (by show k < 11; omega)]
 have h:=Tl ⟨k.toNat,by omega⟩
 simp only[cd_ h0] at h
 rw[h]
theorem F0 {k:Int} (h0:0≤k) (h1:k≤10):BW k=some ((ba (dK k),()),()):=by
 rw[Qq,dx h0 (by show k < 11; omega)]
 have h:=Tl ⟨k.toNat,by omega⟩
 simp only[cd_ h0] at h
 rw[h]
theorem Tm {pre ys:List Int} {k:Int} (h:l8=pre++k :: ys):k=(pre.length:Int)+1∧1≤k∧k≤10:=by
 have h1:l8[pre.length]? = some k:=by rw[h]; simp
 have hl:pre.length < 10:=by
  have h2:=congrArg ac_ h
  simp at h2
  omega
 have : ∀ i:Fin 10,l8[i.val]? = some ((i.val:Int)+1):=by decide
 rw[this ⟨pre.length,hl⟩] at h1
 have e:=(bl_ h1).symm
 simp only at e
 exact⟨e,by omega,by omega⟩
theorem Mf {deep:Int} {w l:ag} {b:Bool} {ns:List ab} : ∀(ys pre:List Int),l8=pre++ys→dY deep (ba w) ((pre.length:Int)+1) (ba l) b ns=match ys.find? (fun k=>decide (dK k=w)) with
  | some k=>gB k deep (ba l) b ns
  | none=>some ((-1,()),((ba l,ns,true,()),()))
 | [],pre,h=>by
  have:pre.length=10:=by
   rw[bz_] at h
   rw[←h]
   rfl
  rw[this,pK,aL (by decide)]
  rfl
 | k :: ys,pre,h=>by
  obtain⟨e1,e2,e3⟩:=Tm h
  rw[←e1,pK,aQ e3,F0 (by omega) e3]
  simp only[Z1,dn,cy_,Ce]
  by_cases hp:dK k=w
  ·rw[aQ hp.symm]
   simp[hp]
  ·rw[aL (Ne.symm hp),wr (by omega) (by omega)]
   have:=Mf (deep:=deep) (w:=w) (l:=l) (b:=b) (ns:=ns) ys (pre++[k]) (aU h)
   rw[Z7,Z4,show((pre.length+1:Nat):Int)+1=k+1 by omega] at this
   rw[this]
   simp[hp]
noncomputable def ql (w s:ag) (a:Int) (b:Bool) (ns:List ab):Option ((Int×Unit)×(ld×Unit)) :=
 if(bk w).2=true∧w≠[] then cm (nC (bk w).1) (ba s) a b ns
 else if(cO w).2=true then cm (2,0,(0,0,(⟨#[]⟩:Z0),()),(cO w).1,((0,0,()),false,false,()),([]:(List Int)),()) (ba s) a b ns
 else some ((0,()),((ba s,a,true,ns,()),()))
theorem Q6 {w s:ag} {a:Int} {b:Bool} {ns:List ab} (hw:w.length≤1000):fL (ba w) 11 (ba s) a b ns=ql w s a b ns:=by
 rw[tX,aL (by decide),rN (by omega),rM (by omega)]
 simp only[Z1,hY]
 have e0:(Z6 (ba w) == Z6 (⟨#[]⟩:Z0))=decide (w=[]):=dn (b:=[])
 rw[e0]
 unfold ql
 cases (bk w).2 <;> by_cases hw0:w=[] <;> cases (cO w).2 <;> simp[hw0]
theorem Mg {w s:ag} {ns:List ab} (hw:w.length≤1000) (hs:s.length≤900) : ∀(ys pre:List Int) (l:ag),l8=pre++ys→l <:+ s → ∃ l',(l'=l∨l'=bl l)∧fL (ba w) ((pre.length:Int)+1) (ba s) (bU s l) false ns=match ys.find? (fun k=>decide (dK k=w) && ([40]:ag).isPrefixOf (bl l)) with
  | some k=>yq k (ba s) (bU s ((bl l).drop 1)) false ns
  | none=>ql w s (bU s l') false ns
 | [],pre,l,h,hl=>by
  have:pre.length=10:=by
   rw[bz_] at h
   rw[←h]
   rfl
  refine⟨l,.inl rfl,?_⟩
  rw[this]
  exact Q6 hw
 | k :: ys,pre,l,h,hl=>by
  obtain⟨e1,e2,e3⟩:=Tm h
  have ih:=fun l' (hl':l' <:+ s)=>Mg (ns:=ns) hw hs ys (pre++[k]) l' (aU h) hl'
  rw[Z7,Z4,show((pre.length+1:Nat):Int)+1=k+1 by omega] at ih
  rw[←e1,tX,aQ e3,Me (by omega) e3]
  simp only[Z1,dn,cy_,hY]
  by_cases hp:dK k=w
  ·rw[aQ hp,show(⟨#[40]⟩:Z0)=ba [40] from rfl,i8 (by omega) (by decide) hl]
   simp only[Z1,as_,bj_,hp,bv_]
   cases hq:([40]:ag).isPrefixOf (bl l) with
   | true=>exact⟨l,.inl rfl,rfl⟩
   | false =>
    simp only[Z5,ad_]
    rw[wr (by omega) (by omega)]
    obtain⟨l',h1,h2⟩:=ih (bl l) (aj (ay l) hl)
    rw[dD] at h1 h2
    refine⟨l',.inr (by simpa using h1),?_⟩
    rw[h2,hq]
  ·rw[aL hp,wr (by omega) (by omega)]
   obtain⟨l',h1,h2⟩:=ih l hl
   refine⟨l',h1,?_⟩
   rw[h2]
   simp[hp]
theorem l9 (p:UInt8→Bool) (l:ag):(l.takeWhile p).length≤l.length:=(List.takeWhile_prefix p).length_le
abbrev nP (p:aM):ab:=(2,0,(0,0,(⟨#[]⟩:Z0),()),p,((0,0,()),false,false,()),([]:(List Int)),())
abbrev nA (p q:aM):ab:=(3,0,(0,0,(⟨#[]⟩:Z0),()),p,q,([]:(List Int)),())
noncomputable def e8 (deep:Int) (w r:ag) (b:Bool) (ns:List ab):Option ((Int×Unit)×(p6×Unit)) :=
 if(bk w).2=true∧((bk w).1.1=1∨(bk w).1.1=3) then bS (bk w).1 (ba r) b ns
 else if(cO w).2=true then aI (nP (cO w).1) (ba r) b ns
 else match l8.find? (fun k=>decide (dK k=w)) with
  | some k=>gB k deep (ba r) b ns
  | none=>some ((-1,()),((ba r,ns,true,()),()))
theorem gK {F:Option ((Int×Unit)×(p6×Unit))}:(F.bind fun z3=>(some ((z3.1.1,()),(z3.2.1,()))))=F:=Ce
theorem Tn {deep:Int} {w l:ag} {b:Bool} {ns:List ab}:dY deep (ba w) 1 (ba l) b ns=match l8.find? (fun k=>decide (dK k=w)) with
  | some k=>gB k deep (ba l) b ns
  | none=>some ((-1,()),((ba l,ns,true,()),())):=Mf l8 [] rfl
theorem Zd {deep:Int} {l:ag} {b:Bool} {ns:List ab} (hl:l.length≤900):dS deep 6 (ba l) b ns=e8 deep ((bl l).takeWhile aP) ((bl l).dropWhile aP) b ns:=by
 have h1:=aJ (ay l)
 have h2:((bl l).takeWhile aP).length≤(bl l).length:=l9 aP (bl l)
 rw[rn,aL (by decide),yS (by omega)]
 simp only[Z1]
 rw[nS (by omega),nR (by omega)]
 simp only[Z1,gK,Tn]
 unfold e8
 cases (bk ((bl l).takeWhile aP)).2 with
 | false=>simp
 | true =>
  by_cases k1:(bk ((bl l).takeWhile aP)).1.1=1
  ·simp[k1]
  ·by_cases k3:(bk ((bl l).takeWhile aP)).1.1=3
   ·simp[k3]
   ·simp[k1,k3]
theorem qm {deep:Int} {l:ag} {b:Bool} {ns:List ab} (hl:l.length≤900):fx deep (ba l) b ns =
  if(bl l).head? = some 34 then j0 (ba (bl l)) b ns
  else if(bl l).head? = some 35 then dS deep 1 (ba (bl l)) b ns
  else if(bl l).head? = some 40 then((bv 1 (gt_ gu_ (deep+1)) (ba ((bl l).drop 1)) b ns).bind fun z6=>(if z6.2.1.2.2.1=true then(some ((z6.1.1,()),((z6.2.1.1,z6.2.1.2.1,true,()),()))) else((bn (⟨#[41]⟩:Z0) z6.2.1.1 z6.2.1.2.2.1 z6.2.1.2.1).bind fun z7=>(some ((z6.1.1,()),((z7.2.1.1,z7.2.1.2.1,(!z7.1.1),()),()))))))
  else e8 deep ((bl l).takeWhile aP) ((bl l).dropWhile aP) b ns:=by
 have h1:=aJ (ay l)
 have h2:((bl l).takeWhile aP).length≤(bl l).length:=l9 aP (bl l)
 rw[Fp,mP]
 simp only[Z1]
 rw[show(⟨#[34]⟩:Z0)=ba [34] from rfl,ru _ _ (by omega),show(⟨#[35]⟩:Z0)=ba [35] from rfl,ru _ _ (by omega),show(⟨#[40]⟩:Z0)=ba [40] from rfl,cX (by omega)]
 simp only[Z1,gK,D0,dD,il (c:=40) (.inr (.inl rfl)),Z9,Z4]
 by_cases c1:(bl l).head? = some 34
 ·rw[Z3 c1,Z3 c1]
 ·rw[Z2 c1,Z2 c1]
  by_cases c2:(bl l).head? = some 35
  ·rw[Z3 c2,Z3 c2]
  ·rw[Z2 c2,Z2 c2]
   by_cases c3:(bl l).head? = some 40
   ·rw[Z3 c3,Z3 c3,Z3 c3]
   ·rw[Z2 c3,Z2 c3,Z2 c3,yS (by omega),dD]
    simp only[Z1]
    rw[nS (by omega),nR (by omega)]
    simp only[Z1,gK,Tn]
    unfold e8
    cases (bk ((bl l).takeWhile aP)).2 with
    | false=>simp
    | true =>
     by_cases k1:(bk ((bl l).takeWhile aP)).1.1=1
     ·simp[k1]
     ·by_cases k3:(bk ((bl l).takeWhile aP)).1.1=3
      ·simp[k3]
      ·simp[k1,k3]
def zI (m:ag):Bool:=(cO (m.takeWhile aP)).2 && decide ((bl (m.dropWhile aP)).head? = some 58)
def jR (m:ag):ag:=bl ((bl (m.dropWhile aP)).drop 1)
theorem D8 {l:ag} {b:Bool} {ns:List ab} (hl:l.length≤900):kD (ba l) b ns =
  if zI (bl l)=true then some ((nA (cO ((bl l).takeWhile aP)).1 (cO ((jR (bl l)).takeWhile aP)).1,true,()),((ba ((jR (bl l)).dropWhile aP),ns,(b || !(cO ((jR (bl l)).takeWhile aP)).2),()),()))
  else some (((0,0,(0,0,(⟨#[]⟩:Z0),()),((0,0,()),false,false,()),((0,0,()),false,false,()),([]:(List Int)),()),false,()),((ba l,ns,b,()),())):=by
 have h1:=aJ (ay l)
 have h2:((bl l).takeWhile aP).length≤(bl l).length:=l9 aP (bl l)
 have h3:=Ir aP (bl l)
 have h4:=aJ (ay ((bl l).dropWhile aP))
 have h5:((bl ((bl l).dropWhile aP)).drop 1).length≤(bl ((bl l).dropWhile aP)).length:=aJ (gh 1 _)
 have h6:=aJ (ay ((bl ((bl l).dropWhile aP)).drop 1))
 have h7:((jR (bl l)).takeWhile aP).length≤(jR (bl l)).length:=l9 aP _
 have h8:(jR (bl l)).length≤((bl ((bl l).dropWhile aP)).drop 1).length:=h6
 rw[zQ,yS (by omega)]
 simp only[Z1]
 rw[nR (by omega)]
 simp only[Z1]
 unfold zI
 cases hp:(cO ((bl l).takeWhile aP)).2 with
 | false=>simp
 | true =>
  simp only[al_,bj_]
  rw[show(⟨#[58]⟩:Z0)=ba [58] from rfl,cX (by omega)]
  simp only[Z1,il (c:=58) (.inr (.inr (.inr (.inr rfl)))),Z4]
  by_cases hc:(bl ((bl l).dropWhile aP)).head? = some 58
  ·simp only[hc,bv_,aj_,Z5,ad_,al_]
   rw[yS (by omega)]
   simp only[Z1]
   rw[show bl ((bl ((bl l).dropWhile aP)).drop 1)=jR (bl l) from rfl,nR (by omega)]
   simp only[Z1]
   cases b <;> simp
  ·simp only[hc,decide_false,as_,al_,Z5,ad_]
end Go.Proofs.YtipnjpfdlolhmaaGreatDoor.Abs
