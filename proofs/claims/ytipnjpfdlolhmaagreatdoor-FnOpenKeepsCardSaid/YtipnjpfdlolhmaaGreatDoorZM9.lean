/- Plain laws: what InputOf gives is a source, as it stands. -/
import Derived.Test.YtipnjpfdlolhmaaGreatDoorZM8
set_option linter.unusedVariables false
set_option linter.unusedSimpArgs false
set_option linter.unusedSectionVars false
open Bool renaming and_eq_true→Z8,eq_false_iff→bt_,eq_iff_iff→ci_,false_eq_true→Z5,not_eq_true'→cz_,not_false→as_,not_true→aj_,true_and→bj_,true_eq_false→go_
open ByteArray renaming toList→Z6
open Go.IntKind renaming i64→gu_,wrap→gt_
open Go.Lib renaming decDigits→am_
open Int renaming toNat→an_
open List renaming all_cons→bp_,append_assoc→ax_,drop_succ_cons→bh_,drop_zero→ce_,filter_cons_of_neg→fm_,filter_eq_self→ev_,getD→aw_,getElem?_map→eh_,getLast?_append→et_,getLast?_singleton→eg_,head?_cons→cr_,length_append→Z7,length_cons→aa_,length_drop→dv_,length_nil→bg_,length_pos_iff→eb_,length_singleton→Z4,map_cons→bb_,mem_cons_of_mem→af_,mem_cons_self→bn_,mem_cons→bd_,pairwise_cons→bs_,singleton_append→bi_
open Nat renaming le_refl→ag_
open Option renaming bind_some→Z1,some_or→gc_
open Option.some renaming injEq→ap_,inj→bl_
open Prod renaming ext→es_
open _root_ renaming ByteArray→Z0,absurd→ay_,congrArg→ae_,decide_eq_false→bm_,decide_eq_true_eq→Z9,decide_eq_true→ba_,decide_true→bv_,if_false→ad_,if_neg→Z2,if_pos→Z3,if_true→al_
namespace Go.Proofs.YtipnjpfdlolhmaaGreatDoor.Abs
open Go
noncomputable def eM (x:Z0):List ab×Bool:=if h:x.size≤9223372036854775807 then((J3 h).choose,(J3 h).choose_spec.choose) else([],false)
theorem nw {x:Z0} (h:x.size≤9223372036854775807):iP x=some (((eM x).1,(eM x).2,()),())∧j7 x=some (((eM x).1,(eM x).2,()),())∧((eM x).2=true→dJ (eM x).1=true)∧((eM x).2=false→(eM x).1=[]):=by
 unfold eM
 rw[dif_pos h]
 exact(J3 h).choose_spec.choose_spec
theorem MC {f:List ab} (h:dJ f=true) (hl:(fT f).length≤200):eM (ba (fT f))=(f,true):=by
 have h1:=(nw (x:=ba (fT f)) (by rw[az]; omega)).2.1
 rw[TM h hl] at h1
 have:=bl_ h1
 have e1:(eM (ba (fT f))).1=f:=(ae_ (fun z=>z.1.1) this).symm
 have e2:(eM (ba (fT f))).2=true:=(ae_ (fun z=>z.1.2.1) this).symm
 exact es_ e1 e2
def bL (f:List ab):ag:=if dJ f=true∧(fT f).length≤200 then fT f else []
theorem ny {f:List ab} (h:dJ f=true):f.length≤60∧(∀ x∈f,x.2.2.1.2.2.1.size≤9223372036854775807) ∧ ∀ x∈f,x.2.2.2.2.2.1.length≤10000000:=by
 have hs:dL f=true:=by
  unfold dL
  rw[List.all_eq_true]
  intro y hy
  obtain⟨i,hi⟩:=List.getElem?_of_mem hy
  exact(iu h i y hi).1
 have ho':=h
 unfold dJ at ho'
 rw[Z8] at ho'
 have:=aH.1 ho'.1
 exact⟨by omega,Hc (ui hs),Hd (ui hs)⟩
theorem Ed {f:List ab} (hl:f.length≤10000000) (hs : ∀ x∈f,x.2.2.1.2.2.1.size≤9223372036854775807) (hk : ∀ x∈f,x.2.2.2.2.2.1.length≤10000000):pk f=some ((ba (bL f),()),())∧lP f=some ((ba (bL f),()),()):=by
 rw[uZ,uW,kY hl hs hk,jo hl hs hk]
 simp only[Z1]
 unfold bL
 cases ho:dJ f with
 | false=>exact⟨rfl,rfl⟩
 | true =>
  simp only[aj_,Z5,ad_]
  have ho':=ho
  unfold dJ at ho'
  rw[Z8] at ho'
  have hlen:=aH.1 ho'.1
  have ht:=ho'.2
  unfold pv at ht
  cases hc:dt f f.length ((f.length:Int) - 1) with
  | none=>rw[hc] at ht; cases ht
  | some p =>
   obtain⟨h1,h2⟩:=He (by omega) f.length ((f.length:Int) - 1) p.1 p.2 hc
   rw[wr (by omega) (by omega),(h1 1).1,(h1 0).2,F7]
   simp only[Z1,az]
   by_cases hb:(fT f).length≤200
   ·have hb':(bO f f.length ((f.length:Int) - 1) 1).length≤200:=hb
    rw[aL (by omega),Z3 (by simp[hb])]
    exact⟨rfl,rfl⟩
   ·have hb' : ¬(bO f f.length ((f.length:Int) - 1) 1).length≤200:=hb
    rw[aQ (by omega),Z2 (fun h=>hb h.2)]
    exact⟨rfl,rfl⟩
theorem Bw (f:List ab):(bL f).length≤200:=by
 unfold bL
 split
 ·rename_i h
  exact h.2
 ·exact Nat.zero_le _
noncomputable def ic (w:ag):ag×Bool :=
 if w=[] then([],true)
 else if(w.all k7 && decide (w.length≤200))=false then([],false)
 else if w.head? = some 61 then(let r:=eM (ba (w.drop 1)); if r.2=true∧bL r.1≠[]∧(bL r.1).length < 200 then(61 :: bL r.1,true) else([],false))
 else if gp w=true then(lb (dr (kM w)),true)
 else if(bk w).2=true then(w,true)
 else if w.length=200 then([],false) else(39 :: w,true)
theorem ZK {w:ag} (hx:w.length≤9223372036854775807):qb (ba w)=some ((ba (ic w).1,(ic w).2,()),()):=by
 rw[C1,qQ (by rw[az]; exact hx)]
 simp only[Z1]
 have e0 : ∀ x:ag,(Z6 (ba x) == Z6 (⟨#[]⟩:Z0))=decide (x=[]):=fun x=>dn (b:=[])
 have e1:(plain (ba w) && decide (((ba w).size:Int)≤200))=(w.all k7 && decide (w.length≤200)):=by
  rw[ze,az]
  congr 1
  rw[ci_,Z9,Z9]
  omega
 rw[e0,e1]
 unfold ic
 by_cases hw:w=[]
 ·subst hw
  rfl
 ·rw[Z2 hw,bm_ hw]
  cases hp:(w.all k7 && decide (w.length≤200)) with
  | false=>rfl
  | true =>
   rw[Z2 (by decide)]
   have hp':=hp
   rw[Z8,Z9] at hp'
   have hl:=hp'.2
   simp only[aj_,Z5,ad_]
   cases w with
   | nil=>exact ay_ rfl hw
   | cons c l =>
    rw[nu,D2 c 61 (n:=61) rfl]
    by_cases hc:c=61
    ·subst hc
     have hll:l.length≤200:=by rw[aa_] at hl; omega
     simp only[cr_,bv_,al_,bh_,ce_]
     rw[show(1:Int)=((1:Nat):Int) from rfl,fB (by simp)]
     simp only[bh_,ce_]
     obtain⟨r1,_,r3,r4⟩:=nw (x:=ba l) (by rw[az]; omega)
     rw[r1]
     simp only[Z1]
     have hsm:(eM (ba l)).1.length≤10000000∧(∀ x∈(eM (ba l)).1,x.2.2.1.2.2.1.size≤9223372036854775807) ∧ ∀ x∈(eM (ba l)).1,x.2.2.2.2.2.1.length≤10000000:=by
      cases hb:(eM (ba l)).2 with
      | false=>rw[r4 hb]; simp
      | true =>
       have:=ny (r3 hb)
       exact⟨by omega,this.2⟩
     have hfl:=Bw (eM (ba l)).1
     rw[(Ed hsm.1 hsm.2.1 hsm.2.2).2]
     simp only[Z1]
     rw[e0,az,show(⟨#[61]⟩:Z0)=ba [61] from rfl,bB (by simp only[Z4]; omega),wr (by omega) (by omega)]
     cases hb:(eM (ba l)).2 with
     | false=>simp
     | true =>
      by_cases h1:bL (eM (ba l)).1=[]
      ·simp[h1]
      ·by_cases h2:(bL (eM (ba l)).1).length < 200
       ·rw[aL h1,aL (by omega)]
        simp[h1,h2]
       ·rw[aL h1,aQ (by omega)]
        simp[h1,h2]
    ·have hnc : ¬(c :: l).head? = some (61:UInt8):=by simpa using hc
     rw[Z2 hnc]
     simp only[hc,decide_false,Z5,ad_]
     generalize hwd:(c :: l:ag)=w at *
     have hsz:(ba w).size=w.length:=az w
     obtain⟨v,n1,n2⟩:=Bq hw (by omega)
     rw[n1,rN (by omega)]
     simp only[Z1]
     cases ho:gp w with
     | true =>
      have hrg:=yZ ho
      have hok:au (vN (kM w))=true:=by
       rw[VM]
       exact aH.2 hrg
      rw[n2 ho]
      simp only[al_]
      rw[hJ (dM hok),Z3 hok]
      simp only[Z1,fm]
      rfl
     | false =>
      simp only[Z5,ad_]
      cases hr:(bk w).2 with
      | true =>
       obtain⟨k1,k2⟩:=od hr
       simp only[aj_,Z5,ad_]
       rw[hJ (dM k1),Z3 k1,k2]
       simp only[Z1]
       rw[aL (by rw[hsz]; omega)]
       rfl
      | false =>
       simp only[as_,Z5,ad_,al_]
       have hov:au (2,0,ba w,())=true:=by
        unfold au
        rw[Z3 rfl]
        simp only[bv_,bj_]
        rw[e1]
        exact hp
       have htx:cH (2,0,ba w,())=ba (39 :: w):=by
        show(⟨#[39]⟩:Z0)++ba w=_
        rw[show(⟨#[39]⟩:Z0)=ba [39] from rfl,nt]
        rfl
       rw[hJ (dM hov),Z3 hov,htx]
       simp only[Z1,az,aa_]
       by_cases h2:w.length=200
       ·rw[aQ (by omega),Z3 h2]
        rfl
       ·rw[aL (by omega),Z2 h2]
        rfl
theorem xF {w:ag} (hx:w.length≤9223372036854775807):fC (ba w)=(ba (ic w).1,(ic w).2):=by
 have h:=(uj (x:=ba w) (by rw[az]; exact hx)).2.1
 rw[ZK hx] at h
 have:=bl_ h
 exact es_ (ae_ (fun z=>z.1.1) this).symm (ae_ (fun z=>z.1.2.1) this).symm
theorem VS {n:Int} (h0 : -1000000000000000≤n) (h1:n≤1000000000000000):gp (lb (dr n))=true∧kM (lb (dr n))=n∧(lb (dr n)).all k7=true∧(lb (dr n)).head? ≠ some 61∧(lb (dr n)).length≤20∧lb (dr n)≠[]:=by
 have hsz:=pu (n:=n) (by omega) (by omega)
 have hd : ∀ u:Nat,u≤1000000000000000→(am_ u).all dy=true∧bF 0 (am_ u)=u∧am_ u≠[]∧(am_ u).head? ≠ some 45∧(am_ u).head? ≠ some 61∧(am_ u).all k7=true:=by
  intro u hu
  have ha:=Ca (qg u)
  refine⟨ha,qf u,xx.1,xx.2.2.2.1,?_,Co (Pi u)⟩
  intro h
  cases hdd:am_ u with
  | nil=>rw[hdd] at h; cases h
  | cons c t =>
   rw[hdd] at h ha
   simp only[cr_,ap_] at h
   subst h
   simp[dy] at ha
 by_cases hn:n < 0
 ·obtain⟨d1,d2,d3,d4,d5,d6⟩:=hd (-n).toNat (by omega)
  have e:lb (dr n)=45 :: am_ (-n).toNat:=by rw[vl hn,dC]
  rw[←li,e] at hsz
  rw[e]
  have hm:ja (45 :: am_ (-n).toNat)=am_ (-n).toNat:=rfl
  have hg:My (45 :: am_ (-n).toNat)=true:=rfl
  refine⟨?_,?_,?_,by simp,hsz,by simp⟩
  ·unfold gp jD
   rw[hm,d1,d2,ba_ d3,ba_ (by omega)]
   rfl
  ·unfold kM qr
   rw[hm,hg,d2,Z3 rfl]
   omega
  ·rw[bp_,d6]
   rfl
 ·obtain⟨d1,d2,d3,d4,d5,d6⟩:=hd n.toNat (by omega)
  have e:lb (dr n)=am_ n.toNat:=by
   rw[show dr n=dr (n.toNat:Int) by rw[show(n.toNat:Int)=n by omega],l6,dC]
  rw[←li,e] at hsz
  rw[e]
  have hm:ja (am_ n.toNat)=am_ n.toNat:=Z2 d4
  have hg:My (am_ n.toNat)=false:=bm_ d4
  refine⟨?_,?_,d6,d5,hsz,d3⟩
  ·unfold gp jD
   rw[hm,d1,d2,ba_ d3,ba_ (by omega)]
   rfl
  ·unfold kM qr
   rw[hm,hg,d2,Z2 (by decide)]
   omega
theorem Bx {f:List ab} (h:dJ f=true) (hl:(fT f).length < 200) (hne:fT f≠[]):ic (61 :: fT f)=(61 :: fT f,true):=by
 obtain⟨h60,h1,har,d,hc⟩:=Pl h
 have hp:(61 :: fT f).all k7=true:=by
  rw[bp_]
  exact(Z8 _ _).mpr ⟨by decide,Cp _ _ _ _ hc 1⟩
 have ht:bL f=fT f:=Z3 ⟨h,by omega⟩
 unfold ic
 rw[Z2 (by simp),hp,ba_ (by rw[aa_]; omega),Z2 (by decide),Z3 (by rfl)]
 simp only[bh_,ce_]
 rw[MC h (by omega)]
 simp only[ht]
 rw[Z3 (by simp[hne,hl])]
theorem Cq {w:ag} (hw:w≠[]) (hp:(w.all k7 && decide (w.length≤200))=true):ic w=if w.head? = some 61 then(let r:=eM (ba (w.drop 1)); if r.2=true∧bL r.1≠[]∧(bL r.1).length < 200 then(61 :: bL r.1,true) else([],false)) else if gp w=true then(lb (dr (kM w)),true) else if(bk w).2=true then(w,true) else if w.length=200 then([],false) else(39 :: w,true):=by
 unfold ic
 rw[Z2 hw,hp,Z2 (by decide)]
theorem TN {w:ag} (h:(ic w).2=true) (hne:(ic w).1≠[]):ic (ic w).1=((ic w).1,true):=by
 by_cases hw:w=[]
 ·have e:ic w=([],true):=Z3 hw
  rw[e] at hne
  exact ay_ rfl hne
 ·cases hp:(w.all k7 && decide (w.length≤200)) with
  | false =>
   have e:ic w=([],false):=by
    unfold ic
    rw[Z2 hw,hp,Z3 rfl]
   rw[e] at h
   cases h
  | true =>
   have hp':=hp
   rw[Z8,Z9] at hp'
   have e:=Cq hw hp
   by_cases h61:w.head? = some 61
   ·rw[Z3 h61] at e
    dsimp only at e
    by_cases hr:(eM (ba (w.drop 1))).2=true∧bL (eM (ba (w.drop 1))).1≠[]∧(bL (eM (ba (w.drop 1))).1).length < 200
    ·have hd:(w.drop 1).length≤200:=by rw[dv_]; omega
     have hok:=(nw (x:=ba (w.drop 1)) (by rw[az]; omega)).2.2.1 hr.1
     have ht:bL (eM (ba (w.drop 1))).1=fT (eM (ba (w.drop 1))).1:=by
      have:=hr.2.1
      unfold bL at this ⊢
      by_cases k:dJ (eM (ba (w.drop 1))).1=true∧(fT (eM (ba (w.drop 1))).1).length≤200
      ·rw[Z3 k]
      ·rw[Z2 k] at this
       exact ay_ rfl this
     rw[Z3 hr,ht] at e
     rw[e]
     exact Bx hok (by rw[←ht]; exact hr.2.2) (by rw[←ht]; exact hr.2.1)
    ·rw[Z2 hr] at e
     rw[e] at h
     cases h
   ·rw[Z2 h61] at e
    by_cases hn:gp w=true
    ·rw[Z3 hn] at e
     obtain⟨r0,r1⟩:=yZ hn
     obtain⟨i1,i2,i3,i4,i5,i6⟩:=VS r0 r1
     rw[e]
     dsimp only
     rw[Cq i6 (by rw[i3,ba_ (by omega)]; rfl),Z2 i4,Z3 i1,i2]
    ·rw[Z2 hn] at e
     by_cases hv:(bk w).2=true
     ·rw[Z3 hv] at e
      rw[e]
      dsimp only
      exact e
     ·rw[Z2 hv] at e
      by_cases h200:w.length=200
      ·rw[Z3 h200] at e
       rw[e] at h
       cases h
      ·rw[Z2 h200] at e
       rw[e]
       dsimp only
       have hpl:(39 :: w).all k7=true:=by
        rw[bp_,hp'.1]
        rfl
       have hov:au (vT (ba w))=true:=by
        unfold au vT
        rw[Z3 rfl]
        simp only[bv_,bj_]
        rw[ze,hp'.1,az]
        exact ba_ (by omega)
       have hvt:(bk (39 :: w)).2=true:=by
        have e:lb (cH (vT (ba w)))=39 :: w:=by
         show lb ((⟨#[39]⟩:Z0)++ba w)=_
         rw[show(⟨#[39]⟩:Z0)=ba [39] from rfl,nt,dC]
         rfl
        have:=yQ hov
        rw[e] at this
        rw[this]
       have hnn : ¬gp (39 :: w)=true:=by
        unfold gp jD
        have hm:ja (39 :: w)=39 :: w:=rfl
        rw[hm,bp_]
        have:dy 39=false:=by decide
        rw[this]
        simp
       rw[Cq (by simp) (by rw[hpl,ba_ (by rw[aa_]; omega)]; rfl),Z2 (by simp),Z2 hnn,Z3 hvt]
def Zj (x:Z0):Prop:=x=eS∨fo x=true
theorem Xn {x:Z0} (hx:x.size≤9223372036854775807) (h:(fC x).2=true):Zj (fC x).1:=by
 obtain⟨w,rfl⟩ : ∃ s,x=ba s:=⟨lb x,(fm x).symm⟩
 rw[az] at hx
 rw[xF hx] at h ⊢
 by_cases he:(ic w).1=[]
 ·left
  show ba (ic w).1=eS
  rw[he]
 ·right
  have hi:=TN h he
  have hl:(ic w).1.length≤200:=by
   have:=(uj (x:=ba w) (by rw[az]; exact hx)).2.2
   rw[xF hx,az] at this
   exact this
  show fo (ba (ic w).1)=true
  unfold fo
  rw[xF (by omega),hi]
  have:ba (ic w).1≠eS:=fun e=>he (rt (b:=[]) e)
  simp[this]
theorem N4 {f:List ab} (h:dJ f=true) (hl:(fT f).length < 200) (hne:fT f≠[]):fo (ba (61 :: fT f))=true:=by
 unfold fo
 rw[xF (by rw[aa_]; omega),Bx h hl hne]
 have:ba (61 :: fT f)≠eS:=fun e=>by cases rt (b:=[]) e
 simp[this]
structure YH (g:ab→ab):Prop where
 ok : ∀ x,bR x=true→bR (g x)=true
 kids : ∀ x,bR x=true→(g x).2.2.2.2.2.1=x.2.2.2.2.2.1
 six : ∀ x,bR x=true→((g x).1=6↔x.1=6)
 three : ∀ x,(g x).1=3→x.1=3
section
variable {g:ab→ab} (M:YH g) {f:List ab}
include M
theorem MD {k:Int} (h:eK (f.map g) k=true):eK f k=true:=by
 unfold eK at h ⊢
 rw[Z9,List.getD_eq_getElem?_getD] at h ⊢
 rw[eh_] at h
 cases hx:f[k.toNat]? with
 | none=>rw[hx] at h; exact h
 | some x =>
  rw[hx] at h
  exact M.three x h
theorem IQ {c c':Int→Option (Int×Nat)} (hc : ∀ k r,c k=some r→c' k=some r) {call:Bool} : ∀(l:List Int) (cur:Int) (h:Nat) (r:Int×Nat),et c f call l cur h=some r→et c' (f.map g) call l cur h=some r
 | [],cur,h,r,e=>e
 | kid :: l,cur,h,r,e=>by
  simp only[et] at e ⊢
  split at e
  ·rename_i hk
   cases hp:c kid with
   | none=>rw[hp] at e; cases e
   | some p =>
    rw[hp,Z1] at e
    rw[Z3 ⟨hk.1,hk.2.1,fun ha=>hk.2.2 (MD M ha)⟩,hc kid p hp,Z1]
    exact IQ hc l p.1 (max h p.2) r e
  ·cases e
theorem Pm : ∀(n:Nat) (k:Int) (r:Int×Nat),dt f n k=some r→dt (f.map g) n k=some r
 | 0,k,r,e=>e
 | n+1,k,r,e=>by
  unfold dt at e ⊢
  by_cases h0:0≤k
  ·rw[Z3 h0] at e ⊢
   rw[eh_]
   cases hx:f[k.toNat]? with
   | none=>rw[hx] at e; cases e
   | some x =>
    rw[hx] at e
    simp only[Option.map_some] at e ⊢
    by_cases ho:bR x=true
    ·rw[Z3 ho] at e
     rw[Z3 (M.ok x ho),M.kids x ho]
     have h6:decide ((g x).1=6)=decide (x.1=6):=by
      rw[ci_,Z9,Z9]
      exact M.six x ho
     rw[h6]
     exact IQ M (fun k r=>Pm n k r) _ _ _ _ e
    ·rw[Z2 ho] at e
     cases e
  ·rw[Z2 h0] at e
   cases e
theorem qx (h:dJ f=true):dJ (f.map g)=true:=by
 unfold dJ pv at h ⊢
 rw[Z8] at h ⊢
 rw[List.length_map]
 refine⟨h.1,?_⟩
 have h2:=h.2
 cases hc:dt f f.length ((f.length:Int) - 1) with
 | none=>rw[hc] at h2; cases h2
 | some p =>
  obtain⟨s,d⟩:=p
  rw[hc] at h2
  rw[Pm M _ _ _ hc]
  simp only[Z8,cz_,Z9] at h2 ⊢
  refine⟨h2.1,?_,h2.2.2⟩
  rw[bt_]
  intro ha
  have:=MD M ha
  rw[h2.2.1] at this
  cases this
end
def jV:ab:=nC (vE 3)
def jE (x:ab):ab:=if bR x=true then x else jV
def kp (c r:Int) (p:aM):aM:=((if p.2.1=true then p.1.1 else p.1.1+c,if p.2.2.1=true then p.1.2.1 else p.1.2.1+r,()),p.2.1,p.2.2.1,())
def jb (x:ab) (a:aM):ab:=(x.1,x.2.1,x.2.2.1,a,x.2.2.2.2.1,x.2.2.2.2.2.1,())
def zf (x:ab) (b:aM):ab:=(x.1,x.2.1,x.2.2.1,x.2.2.2.1,b,x.2.2.2.2.2.1,())
def k8 (c r:Int) (x:ab):ab :=
 if x.1=2 then jE (jb x (kp c r x.2.2.2.1)) else if x.1=3 then jE (zf (jb x (kp c r x.2.2.2.1)) (kp c r x.2.2.2.2.1)) else x
def dP (row many:Int) (closed:Bool) (other n:Int):Int:=if n < row then n else if closed=false then n+many else if n < row+many then other else n - many
def rowP (row many:Int) (closed:Bool) (other:Int) (p:aM):aM:=((p.1.1,dP row many closed other p.1.2.1,()),p.2.1,p.2.2.1,())
def cB (row many:Int) (closed:Bool) (x:ab):ab :=
 if x.1=2 then(if closed=true∧row≤x.2.2.2.1.1.2.1∧x.2.2.2.1.1.2.1 < row+many then jV else jE (jb x (rowP row many closed row x.2.2.2.1)))
 else if x.1=3 then jE (zf (jb x (rowP row many closed row x.2.2.2.1)) (rowP row many closed (row - 1) x.2.2.2.2.1)) else x
theorem Pn:bR jV=true:=by decide
theorem Cr (x:ab):bR (jE x)=true:=by
 unfold jE
 split
 ·assumption
 ·exact Pn
theorem Cs {x:ab} (h:bR x=true) (k:x.1=2∨x.1=3):x.2.2.2.2.2.1=[]:=by
 have hk:kl x=(x.2.2.2.2.2.1.length:Int):=rfl
 unfold bR at h
 have e:x.2.2.2.2.2.1.length=0:=by
  rcases k with k | k
  ·rw[Z2 (by omega),Z3 k] at h
   simp only[Z8,Z9] at h
   have:=h.1.2
   omega
  ·rw[Z2 (by omega),Z2 (by omega),Z3 k] at h
   simp only[Z8,Z9] at h
   have:=h.1.2
   omega
 exact List.length_eq_zero_iff.1 e
theorem oF (x:ab):(jE x).1=x.1∨(jE x).1=1:=by
 unfold jE
 split
 ·exact .inl rfl
 ·exact .inr rfl
theorem vr {x:ab} (h:x.2.2.2.2.2.1=[]):(jE x).2.2.2.2.2.1=[]:=by
 unfold jE
 split
 ·exact h
 ·rfl
theorem TO (c r:Int):YH (k8 c r) where
 ok x h:=by
  unfold k8
  split
  ·exact Cr _
  ·split
   ·exact Cr _
   ·exact h
 kids x h:=by
  unfold k8
  split
  ·rename_i k
   have e:=Cs h (.inl k)
   rw[e]
   exact vr e
  ·split
   ·rename_i k
    have e:=Cs h (.inr k)
    rw[e]
    exact vr e
   ·rfl
 six x h:=by
  unfold k8
  split
  ·rename_i k
   have:=oF (jb x (kp c r x.2.2.2.1))
   have e:(jb x (kp c r x.2.2.2.1)).1=x.1:=rfl
   omega
  ·split
   ·rename_i k
    have:=oF (zf (jb x (kp c r x.2.2.2.1)) (kp c r x.2.2.2.2.1))
    have e:(zf (jb x (kp c r x.2.2.2.1)) (kp c r x.2.2.2.2.1)).1=x.1:=rfl
    omega
   ·exact Iff.rfl
 three x h:=by
  unfold k8 at h
  split at h
  ·rename_i k
   have:=oF (jb x (kp c r x.2.2.2.1))
   have e:(jb x (kp c r x.2.2.2.1)).1=x.1:=rfl
   omega
  ·split at h
   ·assumption
   ·exact h
theorem Bz (row many:Int) (closed:Bool):YH (cB row many closed) where
 ok x h:=by
  unfold cB
  split
  ·split
   ·exact Pn
   ·exact Cr _
  ·split
   ·exact Cr _
   ·exact h
 kids x h:=by
  unfold cB
  split
  ·rename_i k
   have e:=Cs h (.inl k)
   rw[e]
   split
   ·rfl
   ·exact vr e
  ·split
   ·rename_i k
    have e:=Cs h (.inr k)
    rw[e]
    exact vr e
   ·rfl
 six x h:=by
  unfold cB
  split
  ·rename_i k
   split
   ·have e:jV.1=1:=rfl
    omega
   ·have:=oF (jb x (rowP row many closed row x.2.2.2.1))
    have e:(jb x (rowP row many closed row x.2.2.2.1)).1=x.1:=rfl
    omega
  ·split
   ·rename_i k
    have:=oF (zf (jb x (rowP row many closed row x.2.2.2.1)) (rowP row many closed (row - 1) x.2.2.2.2.1))
    have e:(zf (jb x (rowP row many closed row x.2.2.2.1)) (rowP row many closed (row - 1) x.2.2.2.2.1)).1=x.1:=rfl
    omega
   ·exact Iff.rfl
 three x h:=by
  unfold cB at h
  split at h
  ·rename_i k
   split at h
   ·cases h
   ·have:=oF (jb x (rowP row many closed row x.2.2.2.1))
    have e:(jb x (rowP row many closed row x.2.2.2.1)).1=x.1:=rfl
    omega
  ·split at h
   ·assumption
   ·exact h
noncomputable def bm (x:Z0):Option (List ab):=if(lb x).head? = some 61∧(eM (ba ((lb x).drop 1))).2=true then some (eM (ba ((lb x).drop 1))).1 else none
noncomputable def mb (g:ab→ab) (x:Z0):Option Z0:=match bm x with
 | none=>some x
 | some f=>if bL (f.map g)≠[]∧(bL (f.map g)).length < 200 then some (ba (61 :: bL (f.map g))) else none
theorem fD {x:Z0} {f:List ab} (h:bm x=some f) (hx:x.size≤9223372036854775807):dJ f=true:=by
 unfold bm at h
 split at h
 ·rename_i k
  cases h
  have hl:(ba ((lb x).drop 1)).size≤9223372036854775807:=by
   rw[az,dv_,li]
   omega
  exact(nw hl).2.2.1 k.2
 ·cases h
theorem VT {f:List ab} (h:bL f≠[]):bL f=fT f∧dJ f=true:=by
 unfold bL at h ⊢
 by_cases k:dJ f=true∧(fT f).length≤200
 ·rw[Z3 k]
  exact⟨rfl,k.1⟩
 ·rw[Z2 k] at h
  exact ay_ rfl h
theorem Hj {g:ab→ab} {x y:Z0} (hx:fo x=true) (h:mb g x=some y):fo y=true:=by
 unfold mb at h
 cases hf:bm x with
 | none =>
  rw[hf] at h
  cases h
  exact hx
 | some f =>
  rw[hf] at h
  simp only at h
  split at h
  ·rename_i k
   cases h
   obtain⟨e1,e2⟩:=VT k.1
   rw[e1] at k ⊢
   exact N4 e2 k.2 k.1
  ·cases h
theorem Wy (p:aM):bR (nP p)=aA p.1:=by
 unfold bR kl
 simp[v0,p0]
theorem Wz (p q:aM):bR (nA p q)=cy (p.1,q.1,()):=by
 unfold bR kl
 simp[v0,p0]
theorem VU (r:aw):cy (r,r,())=aA r:=by
 unfold cy
 simp
theorem TP (p:aM):bG (nP p)=some ((aA p.1,()),()):=by
 rw[lZ,mF]
 simp only[bne_self_eq_false,Z5,ad_,beq_self_eq_true,al_,Z1,mN,VU]
theorem TQ (p q:aM):bG (nA p q)=some ((cy (p.1,q.1,()),()),()):=by
 rw[lZ,mF]
 simp only[show((3:Int) != 2)=true from rfl,show((3:Int) != 3)=false from rfl,show((3:Int) == 2)=false from rfl,Z5,ad_,al_,Z1,mN]
theorem sB {l:List Int} (h:l.length≤1000000):ax l=some ((l,()),()):=by
 rw[pE]
 unfold ce
 simp only[im?,dite_true,Z1]
 exact Z3 (by omega)
theorem zg:ax ([]:List Int)=some (([],()),()):=sB (by decide)
theorem Hk {op:Int} {k:Nat} (h:i7 op (k:Int)=true):k≤1000:=by
 unfold i7 at h
 split at h
 ·simp only[Bool.or_eq_true,Z9] at h
  omega
 ·split at h
  ·have:=aH.1 h
   omega
  ·split at h
   ·simp only[Z9] at h
    omega
   ·cases h
theorem zh {G:ab→Int→Int→Option ((ab×Unit)×(Int×(Int×Unit)))} {P:List ab→Int→Int→Int→Int→List ab→Option ((List ab×Unit)×(Int×(Int×Unit)))}
  (hP : ∀ x0 x1 x2 x3 x4 x5,P x0 x1 x2 x3 x4 x5=if(decide (x2 < x1))=true then(ix x0 x2 (af.dflt) fun y1=>(if(y1.1 == 2)=true then((G y1 x3 x4).bind fun z1=>((bG z1.1.1).bind fun z2=>(if(!z2.1.1)=true then((dG 3).bind fun z3=>((ax ([]:(List Int))).bind fun z4=>(app x5 ([(1,0,z3.1.1,((0,0,()),false,false,()),((0,0,()),false,false,()),z4.1.1,())]:(List ab)) 120 fun y2=>(P x0 x1 (gt_ gu_ (x2+1)) z1.2.1 z1.2.2.1 y2)))) else((ax z1.1.1.2.2.2.2.2.1).bind fun z5=>(app x5 ([(z1.1.1.1,z1.1.1.2.1,z1.1.1.2.2.1,z1.1.1.2.2.2.1,z1.1.1.2.2.2.2.1,z5.1.1,())]:(List ab)) 120 fun y3=>(P x0 x1 (gt_ gu_ (x2+1)) z1.2.1 z1.2.2.1 y3)))))) else(if(y1.1 == 3)=true then((G y1 x3 x4).bind fun z6=>((bG z6.1.1).bind fun z7=>(if(!z7.1.1)=true then((dG 3).bind fun z8=>((ax ([]:(List Int))).bind fun z9=>(app x5 ([(1,0,z8.1.1,((0,0,()),false,false,()),((0,0,()),false,false,()),z9.1.1,())]:(List ab)) 120 fun y4=>(P x0 x1 (gt_ gu_ (x2+1)) z6.2.1 z6.2.2.1 y4)))) else((ax z6.1.1.2.2.2.2.2.1).bind fun z10=>(app x5 ([(z6.1.1.1,z6.1.1.2.1,z6.1.1.2.2.1,z6.1.1.2.2.2.1,z6.1.1.2.2.2.2.1,z10.1.1,())]:(List ab)) 120 fun y5=>(P x0 x1 (gt_ gu_ (x2+1)) z6.2.1 z6.2.2.1 y5)))))) else((ax y1.2.2.2.2.2.1).bind fun z11=>(app x5 ([(y1.1,y1.2.1,y1.2.2.1,y1.2.2.2.1,y1.2.2.2.2.1,z11.1.1,())]:(List ab)) 120 fun y6=>(P x0 x1 (gt_ gu_ (x2+1)) x3 x4 y6)))))) else(some ((x5,()),(x3,x4,()))))
  {a b:Int} {A B C:aM→aM} {g:ab→ab} (h2 : ∀ p,aA p.1=true→G (nP p) a b=some ((nP (A p),()),a,b,())) (h3 : ∀ p q,cy (p.1,q.1,())=true→G (nA p q) a b=some ((nA (B p) (C q),()),a,b,()))
  (g2 : ∀ p,aA p.1=true→g (nP p)=if aA (A p).1=true then nP (A p) else jV) (g3 : ∀ p q,cy (p.1,q.1,())=true→g (nA p q)=if cy ((B p).1,(C q).1,())=true then nA (B p) (C q) else jV)
  (g1 : ∀ x,x.1≠2→x.1≠3→g x=x) {f:List ab} (hl:f.length≤1000000) :
  ∀(ys pre acc:List ab),f=pre++ys→(∀ x∈ys,bR x=true)→acc.length≤pre.length→P f (f.length:Int) (pre.length:Int) a b acc=some ((acc++ys.map g,()),a,b,())
 | [],pre,acc,h,_,_=>by
  rw[hP,aL (ci h)]
  simp
 | y :: ys,pre,acc,h,hy,ha=>by
  have hlen:f.length=pre.length+(ys.length+1):=by rw[h]; simp
  have ih:=fun z=>zh hP h2 h3 g2 g3 g1 hl ys (pre++[y]) (acc++[z]) (aU h) (fun x hx=>hy x (af_ _ hx)) (by simp; omega)
  rw[hP,aQ (cr h),bI h,bi h (by omega)]
  have happ : ∀(z:ab) (k:List ab→Option ((List ab×Unit)×(Int×(Int×Unit)))),app acc [z] 120 k=k (acc++[z]):=fun z k=>bJ (by simp only[Z4]; omega)
  have same:y.1≠2→y.1≠3→y.2.2.2.2.2.1.length≤1000000→some ((acc++y :: ys.map g,()),a,b,())=some ((acc++(y :: ys).map g,()),a,b,()):=fun k2 k3 _=>by rw[bb_,g1 y k2 k3]
  cases sA (hy y bn_) with
  | con v k0 k1 k2 =>
   simp only[show((1:Int) == 2)=false from rfl,show((1:Int) == 3)=false from rfl,Z5,ad_,zg,Z1,happ,ih,ax_,bi_,bb_]
   rw[g1 (nC v) (by show(1:Int)≠2; decide) (by show(1:Int)≠3; decide)]
  | cell p k =>
   simp only[beq_self_eq_true,al_,h2 p k,Z1,TP,fN,zg,happ,ih,ax_,bi_,bb_,g2 p k]
   cases aA (A p).1 with
   | true=>simp only[aj_,Z5,ad_,al_]
   | false=>simp only[as_,Z5,ad_,al_]; rfl
  | area p q k =>
   simp only[show((3:Int) == 2)=false from rfl,Z5,ad_,beq_self_eq_true,al_,h3 p q k,Z1,TQ,fN,zg,happ,ih,ax_,bi_,bb_,g3 p q k]
   cases cy ((B p).1,(C q).1,()) with
   | true=>simp only[aj_,Z5,ad_,al_]
   | false=>simp only[as_,Z5,ad_,al_]; rfl
  | neg k =>
   simp only[show((4:Int) == 2)=false from rfl,show((4:Int) == 3)=false from rfl,Z5,ad_,sB (l:=[k]) (by simp),Z1,happ,ih,ax_,bi_,bb_]
   rw[g1 (4,0,v0,p0,p0,[k],()) (by show(4:Int)≠2; decide) (by show(4:Int)≠3; decide)]
  | bin op k k' k0 k1 =>
   simp only[show((5:Int) == 2)=false from rfl,show((5:Int) == 3)=false from rfl,Z5,ad_,sB (l:=[k,k']) (by simp),Z1,happ,ih,ax_,bi_,bb_]
   rw[g1 (5,op,v0,p0,p0,[k,k'],()) (by show(5:Int)≠2; decide) (by show(5:Int)≠3; decide)]
  | call op ks k =>
   have:=Hk k
   simp only[show((6:Int) == 2)=false from rfl,show((6:Int) == 3)=false from rfl,Z5,ad_,sB (l:=ks) (by omega),Z1,happ,ih,ax_,bi_,bb_]
   rw[g1 (6,op,v0,p0,p0,ks,()) (by show(6:Int)≠2; decide) (by show(6:Int)≠3; decide)]
theorem xG {p:aM} {c r:Int} (hp:aA p.1=true) (hc : -1000≤c∧c≤1000) (hr : -1000≤r∧r≤1000):mC p c r=some ((kp c r p,()),())∧n7 p c r=some ((kp c r p,()),()):=by
 obtain⟨⟨a,b,⟨⟩⟩,fc,fr,⟨⟩⟩:=p
 have hp':=bK.1 hp
 dsimp only at hp'
 rw[Cy,NL]
 unfold kp
 dsimp only
 rw[de (n:=a+c) (by omega) (by omega),de (n:=b+r) (by omega) (by omega)]
 cases fc <;> cases fr <;> exact⟨rfl,rfl⟩
theorem TR (p:aM):jE (nP p)=if aA p.1=true then nP p else jV:=by
 unfold jE
 rw[Wy]
theorem TT (p q:aM):jE (nA p q)=if cy (p.1,q.1,())=true then nA p q else jV:=by
 unfold jE
 rw[Wz]
theorem YI (c r:Int) (p:aM):k8 c r (nP p)=if aA (kp c r p).1=true then nP (kp c r p) else jV:=by
 rw[←TR]
 unfold k8
 rw[Z3 rfl]
 rfl
theorem YJ (c r:Int) (p q:aM):k8 c r (nA p q)=if cy ((kp c r p).1,(kp c r q).1,())=true then nA (kp c r p) (kp c r q) else jV:=by
 rw[←TT]
 unfold k8
 rw[Z2 (by show ¬(3:Int)=2; decide),Z3 rfl]
 rfl
theorem ME (c r:Int) (x:ab) (h2:x.1≠2) (h3:x.1≠3):k8 c r x=x:=by
 unfold k8
 rw[Z2 h2,Z2 h3]
theorem Hl (row many:Int) (closed:Bool) (x:ab) (h2:x.1≠2) (h3:x.1≠3):cB row many closed x=x:=by
 unfold cB
 rw[Z2 h2,Z2 h3]
theorem VV (row many:Int) (closed:Bool) (p q:aM):cB row many closed (nA p q)=if cy ((rowP row many closed row p).1,(rowP row many closed (row - 1) q).1,())=true then nA (rowP row many closed row p) (rowP row many closed (row - 1) q) else jV:=by
 rw[←TT]
 unfold cB
 rw[Z2 (by show ¬(3:Int)=2; decide),Z3 rfl]
 rfl
theorem WA (row many:Int) (closed:Bool) (p:aM):cB row many closed (nP p)=if closed=true∧row≤p.1.2.1∧p.1.2.1 < row+many then jV else if aA (rowP row many closed row p).1=true then nP (rowP row many closed row p) else jV:=by
 rw[←TR]
 unfold cB
 rw[Z3 rfl]
 rfl
theorem YK (row many:Int) (closed:Bool) (p:aM):cB row many closed (nP p)=if aA (rowP row many closed 0 p).1=true then nP (rowP row many closed 0 p) else jV:=by
 rw[WA]
 unfold rowP dP
 dsimp only
 by_cases k:closed=true∧row≤p.1.2.1∧p.1.2.1 < row+many
 ·obtain⟨rfl,k1,k2⟩:=k
  rw[Z3 ⟨rfl,k1,k2⟩,Z2]
  intro h
  rw[Z2 (by omega),Z2 (by decide),Z3 k2] at h
  have:=(bK.1 h).2
  dsimp only at this
  omega
 ·rw[Z2 k]
  by_cases k1:p.1.2.1 < row
  ·simp only[Z3 k1]
  ·by_cases k2:closed=false
   ·simp only[Z2 k1,Z3 k2]
   ·have k3 : ¬p.1.2.1 < row+many:=fun h=>k ⟨by simpa using k2,by omega,h⟩
    simp only[Z2 k1,Z2 k2,Z2 k3]
section
variable {f:List ab} (hf:dJ f=true)
include hf
theorem ry:f.length≤60 ∧ ∀ x∈f,bR x=true:=by
 refine⟨(ny hf).1,fun x hx => ?_⟩
 obtain⟨i,hi,rfl⟩:=List.getElem_of_mem hx
 exact(iu hf i f[i] (List.getElem?_eq_getElem hi)).1
theorem N5 {c r:Int} (hc : -1000≤c∧c≤1000) (hr : -1000≤r∧r≤1000):DG f c r=some ((f.map (k8 c r),()),()):=by
 obtain⟨hl,hn⟩:=ry hf
 have h:=zh (G:=sk) (P:=ck) (fun _ _ _ _ _ _=>sq) (a:=c) (b:=r) (A:=kp c r) (B:=kp c r) (C:=kp c r) (g:=k8 c r) (fun p k=>by
   rw[zF,(xG k hc hr).1]
   simp only[Z1,show((2:Int) == 3)=false from rfl,Z5,ad_]) (fun p q k=>by
   rw[zF,(xG (dZ k).1 hc hr).1,(xG (dZ k).2 hc hr).1]
   simp only[Z1,beq_self_eq_true,al_]) (fun p _=>YI c r p) (fun p q _=>YJ c r p q) (ME c r) (f:=f) (by omega) f [] [] rfl hn (ag_ _)
 rw[NH,vW]
 have h':ck f (f.length:Int) 0 c r []=some ((f.map (k8 c r),()),c,r,()):=h
 rw[h']
 rfl
theorem Gf {row many:Int} (hr:1≤row∧row≤1000) (hm : -1000≤many∧many≤1000):BX f row many=some ((f.map (cB row many false),()),()):=by
 obtain⟨hl,hn⟩:=ry hf
 have key : ∀ p:aM,aA p.1=true→(decide (p.1.2.1≥row)=true→IntKind.i64.wrap (p.1.2.1+many)=(rowP row many false 0 p).1.2.1)∧(¬decide (p.1.2.1≥row)=true→p.1.2.1=(rowP row many false 0 p).1.2.1):=fun p k=>by
  have:=bK.1 k
  unfold rowP dP
  dsimp only
  refine⟨fun h => ?_,fun h => ?_⟩
  ·rw[Z9] at h
   rw[de (by omega) (by omega),Z2 (by omega),Z3 rfl]
  ·rw[Z9] at h
   rw[Z3 (by omega)]
 have same : ∀(n:Int) (p:aM),rowP row many false n p=rowP row many false 0 p:=fun n p=>by
  unfold rowP dP
  split
  ·rfl
  ·rw[Z3 rfl,Z3 rfl]
 have form : ∀(o:Int) (p:aM),((p.1.1,(rowP row many false 0 p).1.2.1,()),p.2.1,p.2.2.1,())=rowP row many false 0 p:=fun _ p=>rfl
 have h:=zh (G:=uP) (P:=cw) (fun _ _ _ _ _ _=>t7) (a:=row) (b:=many) (A:=rowP row many false 0) (B:=rowP row many false 0) (C:=rowP row many false 0) (g:=cB row many false) (fun p k=>by
   obtain⟨k1,k2⟩:=key p k
   have h0 : ¬decide ((0:Int)≥row)=true:=by rw[Z9]; omega
   rw[A8,Z2 h0,Z2 h0]
   by_cases kk:decide (p.1.2.1≥row)=true
   ·rw[Z3 kk,k1 kk]
    rfl
   ·rw[Z2 kk]
    have:p=rowP row many false 0 p:=by
     rw[←form 0 p,←k2 kk]
    rw[←this]) (fun p q k=>by
   obtain⟨k1,k2⟩:=key p (dZ k).1
   obtain⟨k3,k4⟩:=key q (dZ k).2
   rw[A8]
   dsimp only
   by_cases kk:decide (p.1.2.1≥row)=true <;> by_cases kq:decide (q.1.2.1≥row)=true
   ·rw[Z3 kk,Z3 kq,k1 kk,k3 kq]
    rfl
   ·have e:q=rowP row many false 0 q:=by rw[←form 0 q,←k4 kq]
    rw[Z3 kk,Z2 kq,k1 kk,←e]
    rfl
   ·have e:p=rowP row many false 0 p:=by rw[←form 0 p,←k2 kk]
    rw[Z2 kk,Z3 kq,k3 kq,←e]
    rfl
   ·have e:p=rowP row many false 0 p:=by rw[←form 0 p,←k2 kk]
    have e':q=rowP row many false 0 q:=by rw[←form 0 q,←k4 kq]
    rw[Z2 kk,Z2 kq,←e,←e']) (fun p _=>YK row many false p) (fun p q _=>by rw[VV,same,same (row - 1)]) (Hl row many false) (f:=f) (by omega) f [] [] rfl hn (ag_ _)
 rw[Qt,xb]
 have h':cw f (f.length:Int) 0 row many []=some ((f.map (cB row many false),()),row,many,()):=h
 rw[h']
 rfl
theorem Gg {row many:Int} (hr:1≤row∧row≤1000) (hm:0≤many∧many≤1000):BZ f row many=some ((f.map (cB row many true),()),()):=by
 obtain⟨hl,hn⟩:=ry hf
 have hw:IntKind.i64.wrap (row+many)=row+many:=de (by omega) (by omega)
 have keyV : ∀(o:Int) (r0:Int),-1000≤r0∧r0≤1000→(if decide (r0≥row+many)=true then IntKind.i64.wrap (r0 - many) else if decide (r0≥row)=true then o else r0)=dP row many true o r0:=fun o r0 hb=>by
  unfold dP
  simp only[Z9,go_,ad_]
  by_cases c1:r0 < row
  ·rw[Z3 c1,Z2 (by omega),Z2 (by omega)]
  ·rw[Z2 c1]
   by_cases c2:r0 < row+many
   ·rw[Z3 c2,Z2 (by omega),Z3 (by omega)]
   ·rw[Z2 c2,Z3 (by omega),de (by omega) (by omega)]
 have less1 : ∀(o k1 k2:Int) (v:ae) (p:aM) (q:aM) (ks:List Int),-1000≤p.1.2.1∧p.1.2.1≤1000→uQ o k1 k2 v p q ks row many=some ((),((k1,k2,v,rowP row many true o p,q,ks,()),row,many,())):=fun o k1 k2 v p q ks hb=>by
  rw[Lv,hw]
  unfold rowP
  rw[←keyV o p.1.2.1 hb]
  by_cases c1:decide (p.1.2.1≥row+many)=true
  ·simp only[Z3 c1]
  ·simp only[Z2 c1]
   by_cases c2:decide (p.1.2.1≥row)=true
   ·simp only[Z3 c2]
   ·simp only[Z2 c2]
 have less2 : ∀(o:Int) (p q:aM),-1000≤q.1.2.1∧q.1.2.1≤1000→yw o (nA p q) row many=some ((),(nA p (rowP row many true o q),row,many,())):=fun o p q hb=>by
  rw[JG,hw]
  unfold rowP
  rw[←keyV o q.1.2.1 hb]
  by_cases c1:decide (q.1.2.1≥row+many)=true
  ·simp only[Z3 c1]
  ·simp only[Z2 c1]
   by_cases c2:decide (q.1.2.1≥row)=true
   ·simp only[Z3 c2]
   ·simp only[Z2 c2]
 have h:=zh (G:=it) (P:=bw) (fun _ _ _ _ _ _=>mL) (a:=row) (b:=many) (A:=rowP row many true 0) (B:=rowP row many true row) (C:=rowP row many true (row - 1)) (g:=cB row many true) (fun p k=>by
   have:=bK.1 k
   rw[mW,Z3 (by rfl),less1 0 2 0 _ p _ _ (by omega)]
   rfl) (fun p q k=>by
   have:=bK.1 (dZ k).1
   have:=bK.1 (dZ k).2
   rw[mW,Z2 (by show ¬((3:Int) == 2)=true; decide),less1 row 3 0 _ p q _ (by omega)]
   dsimp only[Z1]
   rw[de (n:=row - 1) (by omega) (by omega)]
   have h2:=less2 (row - 1) (rowP row many true row p) q (by omega)
   rw[h2]
   rfl) (fun p _=>YK row many true p) (fun p q _=>VV row many true p q) (Hl row many true) (f:=f) (by omega) f [] [] rfl hn (ag_ _)
 rw[Qu,oa]
 have h':bw f (f.length:Int) 0 row many []=some ((f.map (cB row many true),()),row,many,()):=h
 rw[h']
 rfl
end
theorem vt {n row many other:Int} {closed:Bool} (hn : -1000≤n∧n≤1000) (hr : -1000≤row∧row≤1000) (hm : -1000≤many∧many≤1000):fh n row many closed other=some ((dP row many closed other n,()),()):=by
 rw[SW,de (n:=n+many) (by omega) (by omega),de (n:=row+many) (by omega) (by omega),de (n:=n - many) (by omega) (by omega)]
 unfold dP
 simp only[Z9]
 by_cases h1:n < row
 ·simp only[Z3 h1]
 ·simp only[Z2 h1]
  cases closed with
  | false=>rfl
  | true =>
   simp only[aj_,Z5,ad_,go_]
   by_cases h2:n < row+many
   ·simp only[Z3 h2]
   ·simp only[Z2 h2]
theorem sC:dB=some ((jV,()),()):=by
 rw[Qw,C4]
 rfl
theorem Gh:(⟨#[]⟩:Z0).size≤9223372036854775807:=by decide
theorem TU (p:aM):bH (nP p)=some ((aA p.1,()),()):=by
 rw[gI Gh,Wy]
theorem TV (p q:aM):bH (nA p q)=some ((cy (p.1,q.1,()),()),()):=by
 rw[gI Gh,Wz]
theorem IR {row many:Int} {closed:Bool} (hr:1≤row∧row≤1000) (hm : -1000≤many∧many≤1000) {f:List ab} (hl:f.length≤1000000) :
  ∀(ys pre acc:List ab),f=pre++ys→(∀ x∈ys,bR x=true)→acc.length≤pre.length→bo f row many closed (pre.length:Int) acc=some ((acc++ys.map (cB row many closed),()),())
 | [],pre,acc,h,_,_=>by
  rw[zz,aL (ci h)]
  simp
 | y :: ys,pre,acc,h,hy,ha=>by
  have hlen:f.length=pre.length+(ys.length+1):=by rw[h]; simp
  have ih:=fun z=>IR hr hm hl ys (pre++[y]) (acc++[z]) (aU h) (fun x hx=>hy x (af_ _ hx)) (by simp; omega) (closed:=closed)
  rw[zz,aQ (cr h),bI h,bi h (by omega)]
  have happ : ∀(z:ab) (k:List ab→Option ((List ab×Unit)×Unit)),app acc [z] 120 k=k (acc++[z]):=fun z k=>bJ (by simp only[Z4]; omega)
  have hk : ∀(l:List Int) (k:List Int→Option ((List ab×Unit)×Unit)),l.length≤1000000→app [] l 8 k=k l:=fun l k hl=>bJ (by simp only[bg_]; omega)
  cases sA (hy y bn_) with
  | con v k0 k1 k2 =>
   rw[hk [] _ (by decide)]
   simp only[show((1:Int) == 2)=false from rfl,show((1:Int) == 3)=false from rfl,Z5,ad_,Z1,happ,ih,ax_,bi_,bb_]
   rw[Hl row many closed (nC v) (by show(1:Int)≠2; decide) (by show(1:Int)≠3; decide)]
  | cell p k =>
   have hb:=bK.1 k
   rw[hk [] _ (by decide)]
   simp only[show((2:Int) == 3)=false from rfl,Z5,ad_,beq_self_eq_true,al_]
   have e1:fh p.1.2.1 row many closed row=some ((dP row many closed row p.1.2.1,()),()):=vt (by omega) (by omega) hm
   have e2 : ∀ z,bH (2,0,(0,0,(⟨#[]⟩:Z0),()),((p.1.1,z,()),p.2.1,p.2.2.1,()),((0,0,()),false,false,()),([]:List Int),())=some ((aA (p.1.1,z,()),()),()):=fun z=>TU ((p.1.1,z,()),p.2.1,p.2.2.1,())
   simp only[e1,Z1,e2,sC,happ,ih,ax_,bi_,bb_,WA]
   have hrp:(rowP row many closed row p).1=(p.1.1,dP row many closed row p.1.2.1,()):=rfl
   rw[hrp]
   cases closed with
   | false =>
    simp only[Z5,ad_,false_and]
    cases aA (p.1.1,dP row many false row p.1.2.1,()) with
    | true=>simp only[aj_,Z5,ad_,al_]; rfl
    | false=>simp only[as_,Z5,ad_,al_]
   | true =>
    simp only[al_,true_and,eB,Z1]
    rw[de (n:=row+many) (by omega) (by omega),de (n:=row+many - 1) (by omega) (by omega)]
    by_cases kk:row≤p.1.2.1∧p.1.2.1 < row+many
    ·rw[Z3 (aH.2 (by omega)),Z3 kk]
    ·rw[Z2 (fun h=>kk (by have:=aH.1 h; omega)),Z2 kk]
     cases aA (p.1.1,dP row many true row p.1.2.1,()) with
     | true=>simp only[aj_,Z5,ad_,al_]; rfl
     | false=>simp only[as_,Z5,ad_,al_]
  | area p q k =>
   have hb:=bK.1 (dZ k).1
   have hc:=bK.1 (dZ k).2
   rw[hk [] _ (by decide)]
   simp only[show((3:Int) == 2)=false from rfl,Z5,ad_,beq_self_eq_true,al_]
   have e1:fh p.1.2.1 row many closed row=some ((dP row many closed row p.1.2.1,()),()):=vt (by omega) (by omega) hm
   have e3:fh q.1.2.1 row many closed (row - 1)=some ((dP row many closed (row - 1) q.1.2.1,()),()):=vt (by omega) (by omega) hm
   have e2 : ∀ z z',bH (3,0,(0,0,(⟨#[]⟩:Z0),()),((p.1.1,z,()),p.2.1,p.2.2.1,()),((q.1.1,z',()),q.2.1,q.2.2.1,()),([]:List Int),())=some ((cy ((p.1.1,z,()),(q.1.1,z',()),()),()),()):=fun z z'=>TV ((p.1.1,z,()),p.2.1,p.2.2.1,()) ((q.1.1,z',()),q.2.1,q.2.2.1,())
   rw[de (n:=row - 1) (by omega) (by omega)]
   simp only[e1,e3,Z1,e2,sC,happ,ih,ax_,bi_,bb_,VV]
   have hrp:(rowP row many closed row p).1=(p.1.1,dP row many closed row p.1.2.1,()):=rfl
   have hrq:(rowP row many closed (row - 1) q).1=(q.1.1,dP row many closed (row - 1) q.1.2.1,()):=rfl
   rw[hrp,hrq]
   cases cy ((p.1.1,dP row many closed row p.1.2.1,()),(q.1.1,dP row many closed (row - 1) q.1.2.1,()),()) with
   | true=>simp only[aj_,Z5,ad_,al_]; rfl
   | false=>simp only[as_,Z5,ad_,al_]
  | neg k =>
   rw[hk [k] _ (by simp)]
   simp only[show((4:Int) == 2)=false from rfl,show((4:Int) == 3)=false from rfl,Z5,ad_,Z1,happ,ih,ax_,bi_,bb_]
   rw[Hl row many closed (4,0,v0,p0,p0,[k],()) (by show(4:Int)≠2; decide) (by show(4:Int)≠3; decide)]
  | bin op k k' k0 k1 =>
   rw[hk [k,k'] _ (by simp)]
   simp only[show((5:Int) == 2)=false from rfl,show((5:Int) == 3)=false from rfl,Z5,ad_,Z1,happ,ih,ax_,bi_,bb_]
   rw[Hl row many closed (5,op,v0,p0,p0,[k,k'],()) (by show(5:Int)≠2; decide) (by show(5:Int)≠3; decide)]
  | call op ks k =>
   have:=Hk k
   rw[hk ks _ (by omega)]
   simp only[show((6:Int) == 2)=false from rfl,show((6:Int) == 3)=false from rfl,Z5,ad_,Z1,happ,ih,ax_,bi_,bb_]
   rw[Hl row many closed (6,op,v0,p0,p0,ks,()) (by show(6:Int)≠2; decide) (by show(6:Int)≠3; decide)]
theorem MF {c r:Int} (hc : -1000≤c∧c≤1000) (hr : -1000≤r∧r≤1000) {f:List ab} (hl:f.length≤1000000) :
  ∀(ys pre acc:List ab),f=pre++ys→(∀ x∈ys,bR x=true)→acc.length≤pre.length→eI f c r (pre.length:Int) acc=some ((acc++ys.map (k8 c r),true,()),())
 | [],pre,acc,h,_,_=>by
  rw[xl,aL (ci h)]
  simp
 | y :: ys,pre,acc,h,hy,ha=>by
  have hlen:f.length=pre.length+(ys.length+1):=by rw[h]; simp
  have ih:=fun z=>MF hc hr hl ys (pre++[y]) (acc++[z]) (aU h) (fun x hx=>hy x (af_ _ hx)) (by simp; omega)
  rw[xl,aQ (cr h),bI h,bi h (by omega)]
  have happ : ∀(z:ab) (k:List ab→Option ((List ab×(Bool×Unit))×Unit)),app acc [z] 120 k=k (acc++[z]):=fun z k=>bJ (by simp only[Z4]; omega)
  have hk : ∀(l:List Int) (k:List Int→Option ((List ab×(Bool×Unit))×Unit)),l.length≤1000000→app [] l 8 k=k l:=fun l k hl=>bJ (by simp only[bg_]; omega)
  have hsmall : ∀(z:ab) (l:List Int) (o:Int),z=z:=fun _ _ _=>rfl
  cases sA (hy y bn_) with
  | con v k0 k1 k2 =>
   rw[hk [] _ (by decide)]
   have hv:v.2.2.1.size≤9223372036854775807:=dM k0
   have e:bH (1,0,v,((0,0,()),false,false,()),((0,0,()),false,false,()),([]:List Int),())=some ((true,()),()):=by
    rw[gI hv,hy (nC v) bn_]
   simp only[show((1:Int) == 2)=false from rfl,show((1:Int) == 3)=false from rfl,Z5,ad_,e,aj_,Z1,happ,ih,ax_,bi_,bb_]
   rw[ME c r (nC v) (by show(1:Int)≠2; decide) (by show(1:Int)≠3; decide)]
  | cell p k =>
   rw[hk [] _ (by decide)]
   have e2 : ∀ z,bH (2,0,(0,0,(⟨#[]⟩:Z0),()),z,((0,0,()),false,false,()),([]:List Int),())=some ((aA z.1,()),()):=TU
   simp only[show((2:Int) == 3)=false from rfl,Z5,ad_,beq_self_eq_true,al_,(xG k hc hr).2,e2,sC,Z1,happ,ih,ax_,bi_,bb_,YI]
   cases aA (kp c r p).1 with
   | true=>simp only[aj_,Z5,ad_,al_]
   | false=>simp only[as_,Z5,ad_,al_]
  | area p q k =>
   rw[hk [] _ (by decide)]
   have e2 : ∀ z z',bH (3,0,(0,0,(⟨#[]⟩:Z0),()),z,z',([]:List Int),())=some ((cy (z.1,z'.1,()),()),()):=TV
   simp only[show((3:Int) == 2)=false from rfl,Z5,ad_,beq_self_eq_true,al_,(xG (dZ k).1 hc hr).2,(xG (dZ k).2 hc hr).2,e2,sC,Z1,happ,ih,ax_,bi_,bb_,YJ]
   cases cy ((kp c r p).1,(kp c r q).1,()) with
   | true=>simp only[aj_,Z5,ad_,al_]
   | false=>simp only[as_,Z5,ad_,al_]
  | neg k =>
   rw[hk [k] _ (by simp)]
   have e:bH (4,0,v0,p0,p0,[k],())=some ((true,()),()):=by
    rw[gI Gh,hy (4,0,v0,p0,p0,[k],()) bn_]
   simp only[show((4:Int) == 2)=false from rfl,show((4:Int) == 3)=false from rfl,Z5,ad_,e,aj_,Z1,happ,ih,ax_,bi_,bb_]
   rw[ME c r (4,0,v0,p0,p0,[k],()) (by show(4:Int)≠2; decide) (by show(4:Int)≠3; decide)]
  | bin op k k' k0 k1 =>
   rw[hk [k,k'] _ (by simp)]
   have e:bH (5,op,v0,p0,p0,[k,k'],())=some ((true,()),()):=by
    rw[gI Gh,hy (5,op,v0,p0,p0,[k,k'],()) bn_]
   simp only[show((5:Int) == 2)=false from rfl,show((5:Int) == 3)=false from rfl,Z5,ad_,e,aj_,Z1,happ,ih,ax_,bi_,bb_]
   rw[ME c r (5,op,v0,p0,p0,[k,k'],()) (by show(5:Int)≠2; decide) (by show(5:Int)≠3; decide)]
  | call op ks k =>
   have:=Hk k
   rw[hk ks _ (by omega)]
   have e:bH (6,op,v0,p0,p0,ks,())=some ((true,()),()):=by
    rw[gI Gh,hy (6,op,v0,p0,p0,ks,()) bn_]
   simp only[show((6:Int) == 2)=false from rfl,show((6:Int) == 3)=false from rfl,Z5,ad_,e,aj_,Z1,happ,ih,ax_,bi_,bb_]
   rw[ME c r (6,op,v0,p0,p0,ks,()) (by show(6:Int)≠2; decide) (by show(6:Int)≠3; decide)]
section
variable {f:List ab} (hf:dJ f=true)
include hf
theorem MG {row many:Int} {closed:Bool} (hr:1≤row∧row≤1000) (hm : -1000≤many∧many≤1000):sM f row many closed=some ((f.map (cB row many closed),()),()):=by
 obtain⟨hl,hn⟩:=ry hf
 rw[Qx]
 exact IR hr hm (by omega) f [] [] rfl hn (ag_ _)
theorem N6 {c r:Int}:DJ f c r=if bA c (-52) 52=true∧bA r (-99) 99=true then some ((f.map (k8 c r),true,()),()) else some (([],false,()),()):=by
 obtain⟨hl,hn⟩:=ry hf
 have hs:=ny hf
 rw[NM,jo (by omega) hs.2.1 hs.2.2,hf]
 simp only[aj_,Z5,ad_,Z1,eB]
 cases hc:bA c (-52) 52 with
 | false=>simp
 | true =>
  cases hr:bA r (-99) 99 with
  | false=>simp
  | true =>
   have h1:=aH.1 hc
   have h2:=aH.1 hr
   simp only[aj_,Z5,ad_,and_self,al_]
   exact MF (by omega) (by omega) (by omega) f [] [] rfl hn (ag_ _)
end
theorem Ro {x:Z0}:fo x=((fC x).2 && !decide (x=eS) && decide ((fC x).1=x)):=rfl
section
variable {s:List ac} (hs : ∀ c∈s,c.2.1.size≤9223372036854775807) (hl:s.length≤1000000000000)
include hs hl
theorem zL : ∀(ys pre:List ac),s=pre++ys→nl s (pre.length:Int)=some ((Bs pre.getLast? ys,()),())
 | [],pre,h=>by
  rw[xj,aL (ci h)]
  simp only[Bs]
 | y :: ys,pre,h=>by
  have hy:=hs y (by rw[h]; simp)
  have ih:=zL ys (pre++[y]) (aU h)
  rw[et_] at ih
  simp only[eg_,Option.or_some,gc_] at ih
  rw[xj,aQ (cr h),bI h,(uj hy).2.1]
  simp only[Z1]
  rw[bI h,iz]
  simp only[Z1,Bs,bI h,q6,Ro]
  cases hr:aA y.1 with
  | false=>simp
  | true =>
   cases hi:(fC y.2.1).2 with
   | false=>simp
   | true =>
    by_cases he:y.2.1=eS
    ·simp[he]
    ·by_cases hq:(fC y.2.1).1=y.2.1
     ·rcases List.eq_nil_or_concat pre with hp | ⟨q,z,hp⟩
      ·subst hp
       rw[bi (pre:=[]) h (by omega)]
       simp[he,hq]
       exact ih
      ·rw[List.concat_eq_append] at hp
       subst hp
       have hz:s=q++z :: (y :: ys):=by rw[h]; simp
       have hql:((q++[z]).length:Int) - 1=(q.length:Int):=by simp
       have hqs:q.length < s.length:=by rw[hz]; simp
       rw[hql,wr (by omega) (by omega),bI hz,Dc,bi h (by omega)]
       simp only[Z1,et_,eg_,gc_]
       rw[ih]
       cases ha:cA z.1 y.1 <;> simp[he,hq]
     ·simp[he,hq]
theorem Dd:yt s=some ((bd s,()),()):=by
 rw[Ny]
 by_cases h:s.length≤120
 ·rw[aL (by simp; omega)]
  have:=zL hs hl s [] rfl
  simp only[bg_,Int.ofNat_zero,List.getLast?_nil] at this
  rw[this]
  simp[bd,h]
 ·rw[aQ (by simp; omega)]
  simp[bd,h]
end
theorem zi {a b:aw}:(bP aK a b=true)=(a=b):=propext (mE rfl)
theorem kt {a b:aw}:cA a b=true↔a.2.1 < b.2.1∨(a.2.1=b.2.1∧a.1 < b.1):=by
 unfold cA
 simp
theorem BA (a:aw):cA a a=false:=by
 rw[bt_]
 intro h
 have:=kt.1 h
 omega
theorem qU {a b c:aw} (h:cA a b=true) (k:cA b c=true):cA a c=true:=by
 have:=kt.1 h
 have:=kt.1 k
 rw[kt]
 omega
theorem Po {a b:aw} (h1:a.1=b.1) (h2:a.2.1=b.2.1):a=b:=es_ h1 (es_ h2 rfl)
theorem De (a b:aw):cA a b=true∨a=b∨cA b a=true:=by
 rw[kt,kt]
 by_cases h:a=b
 ·exact .inr (.inl h)
 ·by_cases h2:a.2.1=b.2.1
  ·have:a.1≠b.1:=fun e=>h (Po e h2)
   omega
  ·omega
theorem zj {a b:aw} (h:cA a b=true):a≠b:=by
 rintro rfl
 rw[BA] at h
 cases h
def gi (s:List ac):Prop:=s.Pairwise fun a b=>cA a.1 b.1=true
theorem Pp : ∀ {s:List ac} {o:Option ac},Bs o s=true↔(∀ p,o=some p → ∀ c∈s,cA p.1 c.1=true)∧gi s ∧ ∀ c∈s,aA c.1=true∧fo c.2.1=true
 | [],o=>by simp[Bs,gi]
 | c :: l,o=>by
  have ih:=Pp (s:=l) (o:=some c)
  simp only[Bs,Z8,ih]
  constructor
  ·rintro⟨⟨⟨h1,h2⟩,h3⟩,h4,h5,h6⟩
   refine⟨?_,bs_.2 ⟨fun d hd=>h4 c rfl d hd,h5⟩,?_⟩
   ·rintro p rfl d hd
    have h3:cA p.1 c.1=true:=h3
    rcases bd_.1 hd with rfl | hd
    ·exact h3
    ·exact qU h3 (h4 c rfl d hd)
   ·intro d hd
    rcases bd_.1 hd with rfl | hd
    ·exact⟨h1,h2⟩
    ·exact h6 d hd
  ·rintro⟨h1,h2,h3⟩
   have h2:=bs_.1 h2
   refine⟨⟨h3 c (by simp),?_⟩,?_,h2.2,fun d hd=>h3 d (af_ _ hd)⟩
   ·cases o with
    | none=>rfl
    | some p=>exact h1 p rfl c (by simp)
   ·rintro p hp d hd
    cases hp
    exact h2.1 d hd
theorem cR {s:List ac}:bd s=true↔gi s∧(∀ c∈s,aA c.1=true∧fo c.2.1=true)∧s.length≤120:=by
 unfold bd
 rw[Z8,Pp,Z9]
 constructor
 ·rintro⟨⟨_,h1,h2⟩,h3⟩
  exact⟨h1,h2,h3⟩
 ·rintro⟨h1,h2,h3⟩
  exact⟨⟨(fun p hp=>by cases hp),h1,h2⟩,h3⟩
theorem BB {x:Z0}:fo x=true↔(fC x).2=true∧x≠eS∧(fC x).1=x:=by
 unfold fo
 simp[Z8,and_assoc]
theorem Ee {x:Z0} (h:fo x=true):x≠eS:=(BB.1 h).2.1
theorem IT (x:Z0):(fC x).1.size≤200:=by
 by_cases h:x.size≤9223372036854775807
 ·exact(uj h).2.2
 ·unfold fC
  rw[dif_neg h]
  decide
theorem Gi {x:Z0} (h:fo x=true):x.size≤200:=by
 have:=IT x
 rw[(BB.1 h).2.2] at this
 exact this
def jh (r:aw) (s:List ac):List ac:=s.filter fun c => !decide (c.1=r)
def qy (r:aw) (x:Z0):List ac→List ac
 | []=>[(r,x,())]
 | c :: l=>if cA c.1 r=true then c :: qy r x l else(r,x,()) :: jh r (c :: l)
noncomputable def fE (s:List ac) (r:aw) (x:Z0):List ac:=if x=eS then jh r s else qy r x s
theorem Hm {r:aw} {s:List ac} {c:ac}:c∈jh r s↔c∈s∧c.1≠r:=by simp[jh]
theorem Pq {r:aw} {s:List ac} (h:gi s):gi (jh r s):=List.Pairwise.filter _ h
theorem Hn (r:aw) (s:List ac):(jh r s).length≤s.length:=List.length_filter_le _ _
theorem TW {r:aw} {s:List ac} (h : ∀ c∈s,c.1≠r):jh r s=s:=by
 unfold jh
 rw[ev_]
 intro c hc
 simp[h c hc]
theorem we {r:aw} {c:ac} {l:List ac} (h:c.1≠r):jh r (c :: l)=c :: jh r l:=by simp[jh,h]
theorem Df {r:aw} {c:ac} {l:List ac} (h:c.1=r):jh r (c :: l)=jh r l:=by simp[jh,h]
theorem uk {r:aw} {x:Z0} : ∀ s:List ac,(qy r x s).Perm (jh r s++[(r,x,())])
 | []=>by simp[qy,jh]
 | c :: l=>by
  unfold qy
  by_cases h:cA c.1 r=true
  ·rw[Z3 h,we (zj h)]
   exact(uk l).cons c
  ·rw[Z2 h]
   exact(List.perm_append_singleton _ _).symm
theorem Ps {r:aw} {x:Z0} {s:List ac} {c:ac}:c∈qy r x s↔(c∈s∧c.1≠r)∨c=(r,x,()):=by
 rw[(uk s).mem_iff,List.mem_append,Hm,List.mem_singleton]
theorem Xo (r:aw) (x:Z0) (s:List ac):(qy r x s).length≤s.length+1:=by
 rw[(uk s).length_eq,Z7,Z4]
 have:=Hn r s
 omega
theorem Ho {r:aw} {x:Z0} : ∀ {s:List ac},gi s→gi (qy r x s)
 | [],_=>by simp[qy,gi]
 | c :: l,h=>by
  have h':=bs_.1 h
  unfold qy
  by_cases k:cA c.1 r=true
  ·rw[Z3 k]
   refine bs_.2 ⟨fun d hd => ?_,Ho h'.2⟩
   rcases Ps.1 hd with⟨hd,_⟩ | rfl
   ·exact h'.1 d hd
   ·exact k
  ·rw[Z2 k]
   refine bs_.2 ⟨fun d hd => ?_,Pq h⟩
   obtain⟨hd,hn⟩:=Hm.1 hd
   show cA r d.1=true
   rcases De c.1 r with e | e | e
   ·exact ay_ e k
   ·rcases bd_.1 hd with rfl | hd
    ·exact ay_ e hn
    ·rw[←e]
     exact h'.1 d hd
   ·rcases bd_.1 hd with rfl | hd
    ·exact e
    ·exact qU e (h'.1 d hd)
theorem Hp {r:aw} {x:Z0} {s:List ac} (h:gi s):gi (fE s r x):=by
 unfold fE
 split
 ·exact Pq h
 ·exact Ho h
theorem Xp (s:List ac) (r:aw) (x:Z0):(fE s r x).length≤s.length+1:=by
 unfold fE
 split
 ·have:=Hn r s
  omega
 ·exact Xo r x s
theorem Hq {r:aw} {x:Z0} {s:List ac} {c:ac}:c∈fE s r x↔(c∈s∧c.1≠r)∨(x≠eS∧c=(r,x,())):=by
 unfold fE
 by_cases h:x=eS
 ·rw[Z3 h,Hm]
  simp[h]
 ·rw[Z2 h,Ps]
  simp[h]
theorem Rp {s:List ac} (h:bd s=true) : ∀ c∈s,c.2.1≠eS:=fun c hc=>Ee ((cR.1 h).2.1 c hc).2
theorem qV {s:List ac} (h:bd s=true):gi s:=(cR.1 h).1
theorem cS {s:List ac} (h:bd s=true):s.length≤120:=(cR.1 h).2.2
theorem mc {s:List ac} (h:bd s=true) : ∀ c∈s,c.2.1.size≤200:=fun c hc=>Gi ((cR.1 h).2.1 c hc).2
theorem N7 {s:List ac} {r:aw} {x:Z0} (h:bd s=true) (hr:aA r=true) (hx:x≠eS→fo x=true) (hl:(fE s r x).length≤120):bd (fE s r x)=true:=by
 rw[cR] at h ⊢
 refine⟨Hp h.1,?_,hl⟩
 intro c hc
 rcases Hq.1 hc with⟨hc,_⟩ | ⟨hn,rfl⟩
 ·exact h.2.1 c hc
 ·exact⟨hr,hx hn⟩
def MH (s:List ac):Prop:=gi s ∧ ∀ c∈s,aA c.1=true∧fo c.2.1=true
theorem TX {s:List ac} (h:bd s=true):MH s:=⟨(cR.1 h).1,(cR.1 h).2.1⟩
theorem MI {s:List ac} (h:MH s) (hl:s.length≤120):bd s=true:=cR.2 ⟨h.1,h.2,hl⟩
theorem YL {s:List ac} (h:MH s) : ∀ c∈s,c.2.1≠eS:=fun c hc=>Ee (h.2 c hc).2
theorem Xq {s:List ac} {r:aw} {x:Z0} (h:MH s) (hr:aA r=true) (hx:x≠eS→fo x=true):MH (fE s r x):=by
 refine⟨Hp h.1,?_⟩
 intro c hc
 rcases Hq.1 hc with⟨hc,_⟩ | ⟨hn,rfl⟩
 ·exact h.2 c hc
 ·exact⟨hr,hx hn⟩
section
variable {α R:Type}
def jc (p:α→Bool):List α→Nat→Int
 | [],_ => -1
 | c :: l,n=>if p c=true then(n:Int) else jc p l (n+1)
theorem ul {p:α→Bool} {s:List α} {d:α} {P:Int→Option R} {F:Int→Option R} (hl:s.length≤1000000000000)
  (hP : ∀ j,P j=if decide (j < (s.length:Int))=true then ix s j d fun y=>if p y=true then F j else P (gt_ gu_ (j+1)) else F (-1)) : ∀(ys pre:List α),s=pre++ys→P (pre.length:Int)=F (jc p ys pre.length)
 | [],pre,h=>by
  rw[hP,aL (ci h)]
  rfl
 | y :: ys,pre,h=>by
  have ih:=ul hl hP ys (pre++[y]) (aU h)
  rw[hP,aQ (cr h),bI h,bi h (by omega),ih,Z7,Z4]
  show _=F (if p y=true then(pre.length:Int) else jc p ys (pre.length+1))
  by_cases hp:p y=true
  ·rw[Z3 hp,Z3 hp]
  ·rw[Z2 hp,Z2 hp]
theorem Ct {p:α→Bool} : ∀ {l:List α} {n:Nat},jc p l n = -1 → ∀ c∈l,p c=false
 | [],_,_,c,h=>by cases h
 | x :: l,n,e,c,h=>by
  unfold jc at e
  by_cases hx:p x=true
  ·rw[Z3 hx] at e
   omega
  ·rw[Z2 hx] at e
   rcases bd_.1 h with rfl | h
   ·simpa using hx
   ·exact Ct e c h
theorem Cu {p:α→Bool} : ∀ {l:List α} {n:Nat},jc p l n ≠ -1 → ∃ pre x ys,l=pre++x :: ys∧p x=true∧(∀ c∈pre,p c=false)∧jc p l n=((n+pre.length:Nat):Int)
 | [],_,e=>ay_ rfl e
 | x :: l,n,e=>by
  unfold jc at e ⊢
  by_cases hx:p x=true
  ·rw[Z3 hx]
   exact⟨[],x,l,rfl,hx,(fun c h=>by cases h),rfl⟩
  ·rw[Z2 hx] at e ⊢
   obtain⟨pre,z,ys,h1,h2,h3,h4⟩:=Cu e
   refine⟨x :: pre,z,ys,by rw[h1]; rfl,h2,?_,?_⟩
   ·intro c hc
    rcases bd_.1 hc with rfl | hc
    ·simpa using hx
    ·exact h3 c hc
   ·rw[h4,aa_]
    congr 1
    omega
theorem um {p:α→Bool} {d:α} {P:Int→Int→List α→Option R} {F:List α→Option R}
  (hP : ∀ i j xs,P i j xs=if decide (j < (xs.length:Int))=true then inb xs j (if(!p (aw_ xs (an_ j) d))=true then inb xs i (P (gt_ gu_ (i+1)) (gt_ gu_ (j+1)) (List.set xs (an_ i) (aw_ xs (an_ j) d))) else P i (gt_ gu_ (j+1)) xs)
   else(if(0:Int)≤i then(if i < (xs.length:Int) then OF (List.take (an_ i) xs++List.replicate (xs.length - an_ i) d) i F else none) else none)) :
  ∀(ys kept junk:List α),kept.length+junk.length+ys.length≤1000000000000→junk≠[]→P (kept.length:Int) ((kept.length+junk.length:Nat):Int) (kept++junk++ys)=F (kept++ys.filter fun c => !p c)
 | [],kept,junk,hl,hj=>by
  have hjl:=eb_.2 hj
  rw[hP,aL (by simp only[Z7,bg_]; omega),Z3 (by omega),Z3 (by simp only[Z7,bg_]; omega)]
  simp only[List.append_nil,Int.toNat_natCast,List.filter_nil]
  rw[Yb (by omega) (by simp only[Z7,List.length_take,List.length_replicate]; omega)]
  simp
 | y :: ys,kept,junk,hl,hj=>by
  have hjl:=eb_.2 hj
  rw[aa_] at hl
  have e1:kept++junk++y :: ys=(kept++junk)++y :: ys:=rfl
  have hlen:((kept++junk).length:Int)=((kept.length+junk.length:Nat):Int):=by simp
  have hg:aw_ (kept++junk++y :: ys) (an_ ((kept.length+junk.length:Nat):Int)) d=y:=by
   rw[←hlen]
   exact wD
  rw[hP,aQ (by rw[Z7,Z7,aa_]; omega),dx (by omega) (by rw[Z7,Z7,aa_]; omega),hg]
  by_cases hp:p y=true
  ·rw[hp,Z2 (by decide),wr (by omega) (by omega)]
   have ih:=um hP ys kept (junk++[y]) (by simp only[Z7,Z4]; omega) (by simp)
   have e2:kept++(junk++[y])++ys=kept++junk++y :: ys:=by simp
   have e3:((kept.length+(junk++[y]).length:Nat):Int)=((kept.length+junk.length:Nat):Int)+1:=by simp; omega
   rw[e2,e3] at ih
   rw[ih,fm_ (by simp[hp])]
  ·have hp':p y=false:=by simpa using hp
   rw[hp',Z3 (show(!false)=true from rfl),dx (by omega) (by rw[Z7,Z7,aa_]; omega),wr (by omega) (by omega),wr (by omega) (by omega)]
   obtain⟨z,zs,rfl⟩ : ∃ z zs,junk=z :: zs:=by
    cases junk with
    | nil=>exact ay_ rfl hj
    | cons z zs=>exact⟨z,zs,rfl⟩
   have ih:=um hP ys (kept++[y]) (zs++[y]) (by simp only[Z7,bg_,aa_] at hl ⊢; omega) (by simp)
   have e2:List.set (kept++z :: zs++y :: ys) (an_ (kept.length:Int)) y=kept++[y]++(zs++[y])++ys:=by simp
   have e3:(((kept++[y]).length+(zs++[y]).length:Nat):Int)=((kept.length+(z :: zs).length:Nat):Int)+1:=by simp; omega
   have e4:((kept++[y]).length:Int)=(kept.length:Int)+1:=by simp
   rw[e3,e4] at ih
   rw[e2,ih,List.filter_cons_of_pos (by simp[hp'])]
   simp
end
theorem wg {s:List ac} (hl:s.length≤1000000000):ij s=some ((s,()),()):=by
 rw[yF]
 unfold ce
 simp only[im?,dite_true,Z1]
 exact Z3 (by omega)
theorem Xr {s:List ac} {r:aw} (hl:s.length≤1000000000) : ∀(ys pre:List ac),s=pre++ys→co s (s.length:Int) (pre.length:Int) r=some ((jc (fun c=>bP aK c.1 r) ys pre.length,()),(r,())) :=
 ul (p:=fun c:ac=>bP aK c.1 r) (d:=ak.dflt) (F:=fun j=>some ((j,()),(r,()))) (s:=s) (P:=fun j=>co s (s.length:Int) j r) (by omega) fun j=>by
  rw[kV]
  simp only[xa,Z1]
theorem VW {s:List ac} {r:aw} (hl:s.length≤1000000000):eW s r.1 r.2.1=some ((jc (fun c=>bP aK c.1 r) s 0,()),(r,())):=by
 rw[mG,ln]
 cases s with
 | nil=>rfl
 | cons c l =>
  have h2:=Xr (r:=r) hl l [c] rfl
  rw[aQ (by rw[aa_]; omega)]
  have hix : ∀ {β:Type} {F:ac→Option β},ix (c :: l) 0 ak.dflt F=F c:=fun {β F}=>bI (pre:=[]) (ys:=l) rfl
  rw[hix,JD,Z1]
  show(if bP aK c.1 r=true then _ else _)=_
  unfold jc
  by_cases h:bP aK c.1 r=true
  ·rw[Z3 h,Z3 h]
   rfl
  ·rw[Z2 h,Z2 h]
   exact h2
theorem YM (r:aw):(fun c:ac => !bP aK c.1 r)=fun c => !decide (c.1=r):=by
 funext c
 congr 1
 rw[ci_,Z9,zi]
theorem VX {s:List ac} {r:aw} (hl:s.length≤1000000000):ef s r.1 r.2.1=some ((jh r s,()),(r,())):=by
 rw[ll,VW hl,Z1]
 dsimp only
 by_cases h:jc (fun c:ac=>bP aK c.1 r) s 0 = -1
 ·rw[h,Z3 (by rfl)]
  have:=Ct h
  rw[TW fun c hc=>by
   have:=this c hc
   intro e
   rw[zi.mpr e] at this
   cases this]
 ·obtain⟨pre,x,ys,h1,h2,h3,h4⟩:=Cu h
  rw[Z2 (by simpa using h),h4,Nat.zero_add]
  have hlen:pre.length+1+ys.length≤1000000000:=by rw[h1] at hl; simp at hl; omega
  have hd:=um (p:=fun c:ac=>bP aK c.1 r) (d:=ak.dflt) (P:=fun i j xs=>cc i j xs r) (F:=fun l=>some ((l,()),(r,()))) (fun i j xs=>by
   rw[kf]
   simp only[xa,Z1]) ys pre [x] (by simp only[Z4]; omega) (by simp)
  rw[wr (by omega) (by omega)]
  have e1:pre++[x]++ys=s:=by rw[h1]; simp
  have e2:((pre.length+[x].length:Nat):Int)=(pre.length:Int)+1:=by simp
  rw[e1,e2] at hd
  refine hd.trans ?_
  have e3:jh r s=pre++ys.filter fun c => !bP aK c.1 r:=by
   rw[YM r]
   unfold jh
   rw[h1,List.filter_append,fm_ (by simp[zi.mp h2])]
   congr 1
   rw[ev_]
   intro c hc
   have:=h3 c hc
   simp only[cz_,decide_eq_false_iff_not]
   intro e
   rw[zi.mpr e] at this
   cases this
  rw[e3]
def TY (a b:ac):Bool:=cA a.1 b.1
theorem VY:Sort.SWO (α:=aw) cA where
 irrefl:=BA
 trans _ _ _ h k:=qU h k
 ntrans x y z h k:=by
  rw[bt_] at h k ⊢
  intro hz
  rcases De x y with e | e | e
  ·exact h e
  ·subst e
   exact k hz
  ·exact k (qU e hz)
theorem Rq:Sort.SWO (α:=ak.den) TY where
 irrefl x:=VY.irrefl x.1
 trans x y z h k:=VY.trans x.1 y.1 z.1 h k
 ntrans x y z h k:=VY.ntrans x.1 y.1 z.1 h k
theorem TZ {s:List ac} (hl:s.length≤1000000000):eH s=some ((),(ew (α:=ak.den) TY s,())):=by
 rw[l4]
 unfold f0
 simp only[im?,dite_true,Z1,al_]
 exact Z3 (by omega)
theorem Rr {r:aw} {x:Z0} {s:List ac} (h:gi s):ew (α:=ak.den) TY (jh r s++[(r,x,())])=qy r x s :=
 vF ((vD Rq _).trans (uk s).symm) (zp Rq _) (Ho h)
theorem N8 {s:List ac} {r:aw} {x:Z0} (h:gi s) (hl:s.length≤1000000):DF s r x=some ((fE s r x,()),()):=by
 have hd:=Hn r s
 rw[NF,wg (by omega),Z1]
 dsimp only
 rw[VX (by omega),Z1]
 dsimp only
 unfold fE
 by_cases hx:x=eS
 ·subst hx
  rw[Z3 rfl,Z2 (by simp[q6])]
 ·rw[Z2 hx,show(Z6 x == Z6 (⟨#[]⟩:Z0))=decide (x=eS) from q6,bm_ hx,Z3 (by rfl),bJ (by simp only[Z4]; omega),TZ (by simp only[Z7,Z4]; omega),Z1]
  dsimp only
  rw[Rr h]
section
variable {s:List ac} {r:aw} {x:Z0} (hl:s.length≤1000000)
include hl
theorem nD : ∀(ys pre acc:List ac),s=pre++ys→acc.length+ys.length≤1000010→iy s x true (pre.length:Int) r.1 r.2.1 acc=some ((acc++jh r ys,()),())
 | [],pre,acc,h,ha=>by
  rw[pp,aL (ci h)]
  simp[jh]
 | y :: ys,pre,acc,h,ha=>by
  rw[aa_] at ha
  rw[pp,aQ (cr h)]
  simp only[aj_,Z5,ad_,bI h]
  show(if(!bP aK y.1 r)=true then _ else _)=_
  by_cases e:y.1=r
  ·rw[zi.mpr e,Z2 (by decide),bi h (by omega),nD ys _ acc (aU h) (by omega),Df e]
  ·have e':bP aK y.1 r=false:=by rw[bt_,ne_eq,zi]; exact e
   rw[e',Z3 (by rfl),bJ (by simp only[Z4]; omega),bi h (by omega),nD ys _ _ (aU h) (by simp only[Z7,Z4]; omega),we e]
   simp
theorem BC : ∀(ys pre acc:List ac),s=pre++ys→acc.length+ys.length≤1000000→iy s x false (pre.length:Int) r.1 r.2.1 acc=some ((acc++qy r x ys,()),())
 | [],pre,acc,h,ha=>by
  rw[pp,aL (ci h),Z3 (by rfl),bJ (by simp only[Z4,bg_] at ha ⊢; omega)]
  rfl
 | y :: ys,pre,acc,h,ha=>by
  rw[aa_] at ha
  rw[pp,aQ (cr h),Z3 (by rfl)]
  simp only[bI h,Dc,Z1]
  show(if(!cA y.1 r)=true then _ else _)=_
  unfold qy
  cases k:cA y.1 r with
  | true =>
   have e:=zj k
   have e':bP aK y.1 r=false:=by rw[bt_,ne_eq,zi]; exact e
   rw[Z2 (by decide),Z3 rfl]
   show(if(!bP aK y.1 r)=true then _ else _)=_
   rw[e',Z3 (by rfl),bJ (by simp only[Z4]; omega),bi h (by omega),BC ys _ _ (aU h) (by simp only[Z7,Z4]; omega)]
   simp
  | false =>
   rw[Z3 (by decide),Z2 (by decide),bJ (by simp only[Z4]; omega)]
   show(if(!bP aK y.1 r)=true then _ else _)=_
   by_cases e:y.1=r
   ·rw[zi.mpr e,Z2 (by decide),bi h (by omega),nD hl ys _ _ (aU h) (by simp only[Z7,Z4]; omega),Df e]
    simp
   ·have e':bP aK y.1 r=false:=by rw[bt_,ne_eq,zi]; exact e
    rw[e',Z3 (by rfl),bJ (by simp only[Z7,Z4]; omega),bi h (by omega),nD hl ys _ _ (aU h) (by simp only[Z7,Z4]; omega),we e]
    simp
theorem IV:wS s r x=some ((fE s r x,()),()):=by
 rw[SM]
 unfold fE
 by_cases hx:x=eS
 ·subst hx
  rw[Z3 rfl,show(Z6 eS == Z6 (⟨#[]⟩:Z0))=decide (eS=eS) from q6,ba_ rfl]
  exact nD hl s [] [] rfl (by simp only[bg_]; omega)
 ·rw[Z2 hx]
  have:(Z6 x == Z6 (⟨#[]⟩:Z0))=false:=by
   rw[show(Z6 x == Z6 (⟨#[]⟩:Z0))=decide (x=eS) from q6,bm_ hx]
  rw[this]
  exact BC hl s [] [] rfl (by simp only[bg_]; omega)
end
end Go.Proofs.YtipnjpfdlolhmaaGreatDoor.Abs
