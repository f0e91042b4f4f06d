/- Plain laws: both readers side by side: the arguments of a function. -/
import Derived.Test.YtfffplonjaigkaaGreatDoorZM5
import Derived.Lib.SplitLaws
set_option linter.unusedVariables false
set_option linter.unusedSimpArgs false
set_option linter.unusedSectionVars false
open Bool renaming and_eq_true→P8,and_true→bg_,eq_iff_iff→V3,false_eq_true→P9,false_or→bf_,not_false→S8,not_true→S1,true_and→T3
open ByteArray renaming size→Q8,toList→P2
open Go.Lib renaming parseIntB→Y1,parseUintB→br_,parseUintM→am_
open Int renaming lt_irrefl→bz_
open List renaming all_append→ac_,all_cons→X5,all_eq_true→W6,append_nil→T8,concat_eq_append→bq_,cons_append→Z7,dropWhile_cons_of_neg→V9,dropWhile_cons_of_pos→ar_,drop_succ_cons→U1,drop_zero→W3,eq_nil_or_concat→bp_,getD_eq_getElem?_getD→S7,getElem?_of_mem→bw_,getLast?_append→bx_,getLast?_singleton→bc_,head?_cons→W9,length_append→P6,length_cons→Q1,length_map→W1,length_nil→S4,length_pos_iff→ak_,length_singleton→P3,length→Q2,map_append→cd_,map_cons→V6,mem_cons→R4,nil_append→X6
open Option renaming bind_some→P1
open Option.some renaming injEq→R8
open Prod.mk renaming injEq→bd_
open _root_ renaming ByteArray→P0,absurd→S0,congrArg→Q3,decide_eq_false→S3,decide_eq_true_eq→Q0,decide_eq_true→R5,decide_false→V5,decide_true→U5,if_false→R0,if_neg→P4,if_pos→P5,if_true→S2
namespace Go.Proofs.YtfffplonjaigkaaGreatDoor.Abs
open Go
theorem mc {s m m':ae} {L L':Int} {F:RI} {G:RS} {K:(Int×Unit)×(lV×Unit)→RI} {K':(Int×Unit)×(g8×Unit)→RS} (h:jH s m L F G)
  (hg : ∀(i:Int) (l1 l2:ae) (ns:List ab),bl l1=bl l2→l1 <:+ m→l2 <:+ m→cN ns=true→ns.length≤60→(dT (bl l1)=0∨cJ (dT (bl l1)) < L)→jH s m' L' (K ((i,()),((ba l1,ns,false,()),()))) (K' ((i,()),((ba s,bA s l2,false,ns,()),()))))
  (hd : ∀(i:Int) (l1:ae) (b1:Bool) (ns1:List ab) (j:Int) (l2:ae) (ns2:List ab),Dm b1 ns1→l1 <:+ m→ns1.length≤60→l2 <:+ s→ns2.length≤61+m.length→jH s m' L' (K ((i,()),((ba l1,ns1,b1,()),()))) (K' ((j,()),((ba s,bA s l2,true,ns2,()),())))) :
  jH s m' L' (F.bind K) (G.bind K'):=by
 rcases h with⟨i,l1,l2,ns,rfl,rfl,h1,h2,h3,h4,h5,h6⟩ | ⟨i,l1,b1,ns1,j,l2,ns2,rfl,h1,h2,h3,rfl,h4,h5⟩
 ·exact hg i l1 l2 ns h1 h2 h3 h4 h5 h6
 ·exact hd i l1 b1 ns1 j l2 ns2 h1 h2 h3 h4 h5
theorem fZ {s m:ae} {L:Int} {F:RI} {G:RS} {l1:ae} {b1:Bool} {ns1:List ab} {j:Int} {l2:ae} {ns2:List ab} (hF:eF l1 b1 ns1 F) (hd:Dm b1 ns1) (h1:l1 <:+ m) (hG:G=some ((j,()),((ba s,bA s l2,true,ns2,()),()))) (h2:l2 <:+ s) (h3:ns2.length≤61+m.length):jH s m L F G:=by
 obtain⟨i,l',b',ns',e,k1,k2,k3⟩:=hF.dm hd
 exact .inr ⟨i,l',b',ns',j,l2,ns2,e,k2,ac k1 h1,k3,hG,h2,h3⟩
def Kp (s:ae) (n:Nat):Prop := ∀(l l0:ae),bl l=bl l0→l <:+ s→l0 <:+ s→(bl l).length < n → ∀(L deep:Int) (ns:List ab),1≤L→L≤5→0≤deep→deep+((bl l).length:Int)≤200→cN ns=true→ns.length≤60 →
 jH s (bl l) L (bw L deep (ba l) false ns) (dt L (ba s) (bA s l0) false ns)
theorem gN {c:UInt8} {l:ae}:([c]:ae).isPrefixOf l=decide (l.head? = some c):=xO c l
theorem LV {s:ae} (hs:s.length≤200) {n:Nat} (HB:Kp s n) : ∀(k:Nat) (l1 l2:ae),(bl l1).length=k→bl l1=bl l2→l1 <:+ s→l2 <:+ s→(bl l1).length < n → ∀(op deep:Int) (kids:List Int) (ns:List ab),0≤deep→deep+1+((bl l1).length:Int)≤200→kids.length+(bl l1).length≤1000→cN ns=true→ns.length≤60 →
  jH s (bl l1) 5 (b9 op deep (ba l1) false kids ns) (cr op (ba s) (bA s l2) false kids ns):=by
 intro k
 induction k using Nat.strongRecOn with
 | ind k ih =>
  intro l1 l2 hk hb hs1 hs2 hn op deep kids ns hd0 hd hkl ho hns
  subst hk
  have hl1:=aA hs1
  have hm1:=aA (ao l1)
  have hms:bl l1 <:+ s:=ac (ao l1) hs1
  rw[F9 (by omega),Ga,M3 (by omega) hs2,←hb]
  have doom : ∀(y:List Int) (x1:ae) (b1:Bool) (ns1:List ab) (x2:ae) (ns2:List ab),y.length=kids.length+1→Dm b1 ns1→x1 <:+ bl l1→ns1.length≤60→x2 <:+ s→ns2.length≤61+(bl l1).length →
    jH s (bl l1) 5 (tx op deep y (ba x1) b1 ns1) (wz op y (ba s) (bA s x2) true ns2):=by
   intro y x1 b1 ns1 x2 ns2 hy hdm hx1 hn1 hx2 hn2
   have hlx:=aA hx1
   obtain⟨l',h1,h2⟩:=qh (op:=op) (y:=y) (ns:=ns2) (by omega) hx2
   exact fZ (tz hd0 (by omega) (by omega) hn1) hdm hx1 h2 h1 hn2
  have good : ∀(y:List Int) (x1 x2:ae) (ns:List ab),y.length=kids.length+1→bl x1=bl x2→x1 <:+ bl l1→x2 <:+ bl l1→cN ns=true→ns.length≤60 →
    jH s (bl l1) 5 (tx op deep y (ba x1) false ns) (wz op y (ba s) (bA s x2) false ns):=by
   intro y x1 x2 ns hy hbx hx1 hx2 ho hn
   have hlx:=aA hx1
   have hblx:=aA (ao x1)
   have hx2s:=ac hx2 hms
   have c41 : ¬(41:UInt8)=44:=by decide
   have c44 : ¬(44:UInt8)=41:=by decide
   unfold tx wz
   rw[show(⟨#[44]⟩:P0)=ba [44] from rfl,show(⟨#[41]⟩:P0)=ba [41] from rfl,c8 (by omega),fi (by omega) (by decide) hx2s]
   simp only[P1,jF (c:=44) (.inr (.inr (.inr (.inl rfl)))),fQ,eE,P3,S8,T3,gN,←hbx]
   by_cases h44:(bl x1).head? = some 44
   ·have h41 : ¬(bl x1).head? = some 41:=by rw[h44]; simp
    simp only[h44,h41,U5,V5,S1,P9,R0,S2,R8,c44]
    rw[fi (by omega) (by decide) (ac (ao x1) (ac hx1 hms))]
    simp only[P1,S8,T3,gN,cM,h44,U5,S2,S1,P9,R0,P3]
    have hlt:=ki h44
    have hb2:=aA (ao ((bl x1).drop 1))
    have hsx:(bl x1).drop 1 <:+ bl l1:=ac (eR x1) hx1
    exact(ih _ (by omega) _ _ rfl rfl (ac hsx hms) (ac hsx hms) (by omega) op deep y ns hd0 (by omega) (by omega) ho hn).mono (ac (ao _) hsx)
   ·simp only[h44,V5,S8,S2,R0,P9]
    rw[c8 (by omega)]
    simp only[P1,jF (c:=41) (.inr (.inr (.inl rfl))),cM,P3]
    by_cases h41:(bl x1).head? = some 41
    ·simp only[h41,U5,S2,S1]
     have hsx:(bl x1).drop 1 <:+ bl l1:=ac (eR x1) hx1
     exact mb (zY (by omega)) rfl hsx hsx hms ho hn
    ·simp only[h41,V5,R0,S8,P9]
     rw[fi (by omega) (by decide) (ac (ao x1) (ac hx1 hms))]
     simp only[P1,S8,T3,gN,cM,h44,V5,S2,P9,R0]
     have hsx:bl x1 <:+ bl l1:=ac (ao x1) hx1
     exact fZ (dx hn (zY (by omega))) (zZ ho) hsx B5 (ac hsx hms) (by omega)
  by_cases ha:B2 (bl l1)=true
  ·rw[P5 ha,P5 ha]
   have hX:(gy (bl l1)).dropWhile aY <:+ bl l1:=by
    have:=A1 (bl l1)
    rw[cM] at this
    exact this
   cases h2:(cg ((gy (bl l1)).takeWhile aY)).2 with
   | true =>
    simp only[S1,S2]
    refine mc (mb (m:=bl l1) rfl rfl hX hX hms ho hns) ?_ ?_
    ·intro i x1 x2 ns' e1 e2 e3 e4 e5 _
     simp only
     rw[bv (by simp only[P3]; omega),bv (by simp only[P3]; omega)]
     exact good _ _ _ _ (by simp) e1 e2 e3 e4 e5
    ·intro i x1 b1 ns1 j x2 ns2 e1 e2 e3 e4 e5
     simp only
     rw[bv (by simp only[P3]; omega),bv (by simp only[P3]; omega)]
     have:kids++[i]=kids++[i]:=rfl
     by_cases hij:i=j
     ·subst hij
      exact doom _ _ _ _ _ _ (by simp) e1 e2 e3 e4 e5
     ·obtain⟨l',h1,h2⟩:=qh (op:=op) (y:=kids++[j]) (ns:=ns2) (by omega) e4
      have hlx:=aA e2
      exact fZ (tz hd0 (by omega) (by simp only[P6,P3]; omega) e3) e1 e2 h2 h1 e5
   | false =>
    simp only[S8,P9,R0]
    obtain⟨i,h3,_⟩:=ww (x:=nA (cg ((bl l1).takeWhile aY)).1 (cg ((gy (bl l1)).takeWhile aY)).1) (l:=(gy (bl l1)).dropWhile aY) (b:=true) hns
    rw[h3]
    simp only[P1,Bool.true_eq_false,false_and,R0,Bool.true_or]
    rw[bv (by simp only[P3]; omega),bv (by simp only[P3]; omega)]
    obtain⟨l',h1,h2⟩:=qh (op:=op) (y:=kids++[0]) (ns:=ns) (by omega) (ac hX hms)
    have hlx:=aA hX
    exact fZ (tz hd0 (by omega) (by simp only[P6,P3]; omega) hns) (zZ ho) hX h2 h1 (by omega)
  ·rw[P4 ha,P4 ha,wr (by omega) (by omega)]
   refine mc (HB l1 (bl l1) (cM l1).symm hs1 hms hn 1 (deep+1) ns (by decide) (by decide) (by omega) (by omega) ho hns) ?_ ?_
   ·intro i x1 x2 ns' e1 e2 e3 e4 e5 _
    simp only
    rw[bv (by simp only[P3]; omega),bv (by simp only[P3]; omega)]
    exact good _ _ _ _ (by simp) e1 e2 e3 e4 e5
   ·intro i x1 b1 ns1 j x2 ns2 e1 e2 e3 e4 e5
    simp only
    rw[bv (by simp only[P3]; omega),bv (by simp only[P3]; omega)]
    obtain⟨l',h1,h2⟩:=qh (op:=op) (y:=kids++[j]) (ns:=ns2) (by omega) e4
    have hlx:=aA e2
    exact fZ (tz hd0 (by omega) (by simp only[P6,P3]; omega) e3) e1 e2 h2 h1 e5
theorem B6 {p:UInt8→Bool} {c:UInt8} : ∀ {l:ae},c∈l.takeWhile p→p c=true
 | [],h=>by simp at h
 | x :: l,h=>by
  cases hx:p x with
  | true =>
   rw[List.takeWhile_cons_of_pos hx] at h
   rcases R4.1 h with rfl | h
   ·exact hx
   ·exact B6 h
  | false =>
   rw[List.takeWhile_cons_of_neg (by rw[hx]; decide)] at h
   cases h
theorem LW {w:ae} (hw : ∀ c∈w,aY c=true) (h:(bH w).2=true):(w≠[])↔((bH w).1.1=1∨(bH w).1.1=3):=by
 constructor
 ·intro hne
  obtain⟨k1,k2⟩:=pE h
  rcases qL k1 with e | ⟨n,e,_⟩ | ⟨t,e⟩ | ⟨b,e⟩ | ⟨n,e,h0⟩
  ·rw[e] at k2
   exact S0 (zM (b:=[]) k2.symm) hne
  ·rw[e]; exact .inl rfl
  ·rw[e] at k2
   exfalso
   have e2:w=39 :: lb t:=by
    have:ba w=ba (39 :: lb t):=by
     rw[←k2]
     show(⟨#[39]⟩:P0)++t=_
     rw[←ic t,show(⟨#[39]⟩:P0)=ba [39] from rfl,mX,dc]
     rfl
    exact zM this
   exact S0 (hw 39 (by rw[e2]; simp)) (by decide)
  ·rw[e]; exact .inr rfl
  ·rw[e] at k2
   exfalso
   have f : ∀ n:Fin 6,1≤n.val→cQ (n.val:Int)=ba (35 :: kF (n.val:Int)):=by decide +kernel
   have e2:w=35 :: kF (n.val:Int):=by
    have:ba w=ba (35 :: kF (n.val:Int)):=by
     rw[←k2]
     exact f n h0
    exact zM this
   exact S0 (hw 35 (by rw[e2]; simp)) (by decide)
 ·rintro hk rfl
  have:(bH []).1.1=0:=rfl
  omega
theorem Mt {s:P0} {a:Int} {ns:List ab}:dt 5 s a false ns=pY s a false ns:=by
 rw[vi]
 simp only[P9,R0,eE]
 rfl
abbrev LX (k:Int):ab:=(4,0,(0,0,(⟨#[]⟩:P0),()),((0,0,()),false,false,()),((0,0,()),false,false,()),([k]:(List Int)),())
theorem Kq:Q8 ⟨#[]⟩≤9223372036854775807:=by decide
theorem md {s m:ae} {L i j:Int} {l1 l2:ae} {b:Bool} {ns1 ns2:List ab} (hd:Dm b ns1) (h1:l1 <:+ m) (h2:ns1.length≤60) (h3:l2 <:+ s) (h4:ns2.length≤61+m.length):jH s m L (some ((i,()),((ba l1,ns1,b,()),()))) (some ((j,()),((ba s,bA s l2,true,ns2,()),()))) :=
 .inr ⟨i,l1,b,ns1,j,l2,ns2,rfl,hd,h1,h2,rfl,h3,h4⟩
theorem LY {s:ae} (hs:s.length≤200) {n:Nat} (HB:Kp s n) {m:ae} (hbm:bl m=m) (hms:m <:+ s) (hmn:m.length≤n) {deep:Int} {ns:List ab} (hd0:0≤deep) (hd:deep+(m.length:Int)≤200) (ho:cN ns=true) (hn:ns.length≤60) :
  jH s m 5 (fj deep (m.takeWhile aY) (m.dropWhile aY) false ns) ((i7 (ba s) (bA s m) false ns).bind fun z10=>(dF z10.1.1 1 z10.2.1.1 z10.2.1.2.1 z10.2.1.2.2.1 z10.2.1.2.2.2.1)):=by
 have hml:=aA hms
 have hwl:=iH aY m
 have hrm:m.dropWhile aY <:+ m:=List.dropWhile_suffix _
 have hrs:=ac hrm hms
 have hrl:=aA hrm
 rw[xV (by omega) hms]
 simp only[P1]
 obtain⟨l',hl',e⟩:=EA (w:=m.takeWhile aY) (s:=s) (ns:=ns) (by omega) (by omega) jG [] (m.dropWhile aY) rfl hrs
 have e:dF (ba (m.takeWhile aY)) 1 (ba s) (bA s (m.dropWhile aY)) false ns=_:=e
 rw[e]
 have hl's:l' <:+ m:=by
  rcases hl' with rfl | rfl
  ·exact hrm
  ·exact ac (ao _) hrm
 have hlb:bl l'=bl (m.dropWhile aY):=by
  rcases hl' with rfl | rfl
  ·rfl
  ·exact cM _
 cases hf:jG.find? (fun k=>decide (ek k=m.takeWhile aY)) with
 | some k =>
  obtain⟨k',hk',hkw,hkm,hne⟩:=GQ (w:=m.takeWhile aY) (by rw[hf]; simp)
  rw[hf] at hk'
  cases hk'
  have hno : ∀ k∈jG,(bH (ek k)).2=false∧(cg (ek k)).2=false:=by decide +kernel
  obtain⟨v1,v2⟩:=hno k hkm
  rw[hkw] at v1 v2
  have hlt:=GR (l:=m) (by rw[hbm]; exact hne)
  rw[hbm] at hlt
  have ei:fj deep (m.takeWhile aY) (m.dropWhile aY) false ns=fg k deep (ba (m.dropWhile aY)) false ns:=by
   unfold fj
   rw[P4 (by rw[v1]; simp),P4 (by rw[v2]; simp),hf]
  rw[ei,p5,P4 (by decide),show(⟨#[40]⟩:P0)=ba [40] from rfl,c8 (by omega)]
  simp only[P1,jF (c:=40) (.inr (.inl rfl)),gN,P3]
  by_cases h40:(bl (m.dropWhile aY)).head? = some 40
  ·simp only[h40,U5,bg_,hf,S2,S1]
   have hdl:=ki h40
   have hds:(bl (m.dropWhile aY)).drop 1 <:+ m:=ac (eR _) hrm
   have hb2:=aA (ao ((bl (m.dropWhile aY)).drop 1))
   rw[Cs,IC]
   exact(LV hs HB _ _ _ rfl rfl (ac hds hms) (ac hds hms) (by omega) k deep [] ns hd0 (by omega) (by simp only[S4]; omega) ho hn).mono (ac (ao _) hds)
  ·simp only[h40,V5,Bool.and_false,R0,S8]
   have e0:jG.find? (fun _=>false)=none:=rfl
   rw[e0]
   simp only
   have es:ma (m.takeWhile aY) s (bA s l') false ns=some ((0,()),((ba s,bA s l',true,ns,()),())):=by
    unfold ma
    rw[P4 (by rw[v1]; simp),P4 (by rw[v2]; simp)]
   rw[es,hY]
   simp only[S1,P9,R0,fQ]
   exact fZ (dx hn (zY (by simp))) (zZ ho) (ac (ao _) hrm) rfl (ac hl's hms) (by omega)
 | none =>
  have e0:jG.find? (fun k=>decide (ek k=m.takeWhile aY) && ([40]:ae).isPrefixOf (bl (m.dropWhile aY)))=none:=by
   rw[List.find?_eq_none] at hf ⊢
   intro k hk
   have:=hf k hk
   simp only[Q0] at this
   simp[this]
  rw[e0]
  simp only
  unfold ma fj
  rw[hf]
  have hv:=fun h=>LW (w:=m.takeWhile aY) (fun c hc=>B6 hc) h
  by_cases hc:(bH (m.takeWhile aY)).2=true∧m.takeWhile aY≠[]
  ·rw[P5 hc,P5 ⟨hc.1,(hv hc.1).1 hc.2⟩,kG]
   exact mb (GP (Nat.le_trans (fN (pE hc.1).1) (by decide))) hlb.symm hrm hl's hms ho hn
  ·rw[P4 hc,P4 (fun h=>hc ⟨h.1,(hv h.1).2 h.2⟩)]
   by_cases hp:(cg (m.takeWhile aY)).2=true
   ·rw[P5 hp,P5 hp]
    exact mb rfl hlb.symm hrm hl's hms ho hn
   ·rw[P4 hp,P4 hp]
    exact md (zZ ho) hrm hn (ac hl's hms) (by omega)
theorem Kr {s:ae} (hs:s.length≤200) {n:Nat} (HB:Kp s n) : ∀(k:Nat) (l l0:ae),(bl l).length=k→bl l=bl l0→l <:+ s→l0 <:+ s→(bl l).length≤n → ∀(deep:Int) (ns:List ab),0≤deep→deep+((bl l).length:Int)≤200→cN ns=true→ns.length≤60 →
  jH s (bl l) 5 (gU deep (ba l) false ns) (pY (ba s) (bA s l0) false ns):=by
 intro k
 induction k using Nat.strongRecOn with
 | ind k ih =>
  intro l l0 hk hb hs1 hs2 hln deep ns hd0 hd ho hn
  subst hk
  have hl1:=aA hs1
  have hm1:=aA (ao l)
  have hms:bl l <:+ s:=ac (ao l) hs1
  rw[pc,aq (by omega),DZ,show(⟨#[45]⟩:P0)=ba [45] from rfl,show(⟨#[40]⟩:P0)=ba [40] from rfl,show(⟨#[34]⟩:P0)=ba [34] from rfl,show(⟨#[35]⟩:P0)=ba [35] from rfl,show(⟨#[41]⟩:P0)=ba [41] from rfl,c8 (by omega),fi (by omega) (by decide) hs2]
  simp only[P1,P9,R0,fQ,eE,jF (c:=45) (.inl rfl),P3,S8,T3,gN,←hb]
  by_cases h45:(bl l).head? = some 45
  ·simp only[h45,U5,S2]
   have hlt:=ki h45
   have hX:(bl l).drop 1 <:+ bl l:=dS 1 _
   have hbX:=aA (ao ((bl l).drop 1))
   have hlX:((bl l).drop 1).length < (bl l).length:=by
    obtain⟨t,ht⟩:=gz h45
    rw[ht]
    simp
   rw[wr (by omega) (by omega),Mt]
   refine mc (ih _ (by omega) _ _ rfl rfl (ac hX hms) (ac hX hms) (by omega) (deep+1) ns (by omega) (by omega) ho hn) ?_ ?_
   ·intro i x1 x2 ns' e1 e2 e3 e4 e5 _
    exact mb (x:=LX i) rfl e1 (ac e2 (ac (ao _) hX)) (ac e3 (ac (ao _) hX)) hms e4 e5
   ·intro i x1 b1 ns1 j x2 ns2 e1 e2 e3 e4 e5
    refine fZ (dx e3) e1 (ac e2 (ac (ao _) hX)) (EG (x:=LX j) (ns:=ns2) (by omega) Kq) e4 ?_
    show(ns2++[LX j]).length≤_
    rw[P6,P3]
    omega
  ·simp only[h45,V5,P9,R0]
   rw[EB (by omega),fi (by omega) (by decide) hms]
   simp only[P1,cM,S8,T3,gN,P3]
   by_cases h40:(bl l).head? = some 40
   ·have n34 : ¬(bl l).head? = some 34:=by rw[h40]; decide
    have n35 : ¬(bl l).head? = some 35:=by rw[h40]; decide
    simp only[h40,U5,S2]
    rw[P4 (by decide),P4 (by decide)]
    have hX:(bl l).drop 1 <:+ bl l:=dS 1 _
    have hbX:=aA (ao ((bl l).drop 1))
    have hlX:((bl l).drop 1).length < (bl l).length:=by
     obtain⟨t,ht⟩:=gz h40
     rw[ht]
     simp
    rw[wr (by omega) (by omega)]
    refine mc (HB _ _ rfl (ac hX hms) (ac hX hms) (by omega) 1 (deep+1) ns (by decide) (by decide) (by omega) (by omega) ho hn) ?_ ?_
    ·intro i x1 x2 ns' e1 e2 e3 e4 e5 _
     have hx1:x1 <:+ bl l:=ac e2 (ac (ao _) hX)
     have hx2:x2 <:+ bl l:=ac e3 (ac (ao _) hX)
     have hlx:=aA hx1
     simp only[P9,R0]
     rw[c8 (by omega),fi (by omega) (by decide) (ac hx2 hms)]
     simp only[P1,jF (c:=41) (.inr (.inr (.inl rfl))),P3,S8,T3,gN,←e1]
     by_cases h41:(bl x1).head? = some 41
     ·simp only[h41,U5,S2,S1,P9,R0]
      have hd1:(bl x1).drop 1 <:+ bl l:=ac (eR x1) hx1
      exact .inl ⟨i,(bl x1).drop 1,(bl x1).drop 1,ns',rfl,rfl,rfl,hd1,hd1,e4,e5,.inr (IB _)⟩
     ·simp only[h41,V5,R0,S8,P9,S2]
      have hd1:bl x1 <:+ bl l:=ac (ao x1) hx1
      exact md (zZ e4) hd1 e5 (ac hd1 hms) (by omega)
    ·intro i x1 b1 ns1 j x2 ns2 e1 e2 e3 e4 e5
     have hx1:x1 <:+ bl l:=ac e2 (ac (ao _) hX)
     have hlx:=aA hx1
     rw[fi (by omega) (by decide) e4]
     simp only[P1,S1,Bool.false_and,P9,R0,S8,S2]
     cases b1 with
     | true =>
      simp only[S2]
      exact md ⟨.inl rfl,e1.2⟩ hx1 e3 (ac (ao x2) e4) (by omega)
     | false =>
      simp only[P9,R0]
      rw[c8 (by omega)]
      simp only[P1]
      have hdm:cN ns1=false:=e1.1.elim (fun h=>by cases h) id
      refine md ⟨.inr hdm,e1.2⟩ ?_ e3 (ac (ao x2) e4) (by omega)
      split
      ·exact ac (ac (dS _ _) (ao _)) hx1
      ·exact ac (ao _) hx1
   ·simp only[h40,V5,P9,R0]
    rw[fi (by omega) (by decide) hms]
    simp only[P1,cM,S8,T3,gN,P3]
    by_cases h34:(bl l).head? = some 34
    ·simp only[h34,U5,S2]
     obtain⟨t,ht⟩:=gz h34
     have htl:t.length+1=(bl l).length:=by rw[ht]; simp
     have hts:t <:+ bl l:=⟨[34],by rw[ht]; rfl⟩
     rw[ht]
     simp only[U1,W3]
     rw[zW (by omega),LQ (by omega) (ac hts hms)]
     cases hq:qt t with
     | none =>
      rw[←ht]
      exact md (zZ ho) (kg _) hn ⟨s,by simp⟩ (by omega)
     | some p =>
      obtain⟨q1,q2,q3⟩:=Kh t p.1 p.2 hq
      show jH s _ 5 (bG _ _ false ns) (bM _ _ _ false ns)
      rw[kG,←ht]
      have hp:=ac q1 hts
      refine mb (x:=nC (2,0,ba ([]++p.1),())) (GP ?_) rfl hp hp hms ho hn
      show(ba ([]++p.1)).size≤_
      rw[aJ]
      simp only[X6]
      omega
    ·simp only[h34,V5,P9,R0]
     rw[fi (by omega) (by decide) hms]
     simp only[P1,cM,S8,T3,gN,P3]
     by_cases h35:(bl l).head? = some 35
     ·simp only[h35,U5,S2]
      obtain⟨t,ht⟩:=gz h35
      have htl:t.length+1=(bl l).length:=by rw[ht]; simp
      have hts:t <:+ bl l:=⟨[35],by rw[ht]; rfl⟩
      rw[ht]
      simp only[U1,W3]
      have es:=B1 (s:=s) (l:=t) (b:=false) (ns:=ns) (by omega) (ac hts hms) rY [] rfl
      have es:fy 1 (ba s) (bA s t) false ns=_:=es
      rw[GS (by omega),es]
      cases rY.find? (rZ t) with
      | none =>
       simp only
       rw[←ht]
       exact md (zZ ho) (kg _) hn (ac hts hms) (by omega)
      | some e =>
       simp only
       rw[kG,←ht]
       have hp:=ac (dS (kF e).length t) hts
       exact mb (x:=nC (vE e)) (GP (by show eS.size≤_; decide)) rfl hp hp hms ho hn
     ·simp only[h35,V5,P9,R0]
      exact LY hs HB (cM l) hms hln hd0 hd ho hn
noncomputable def vD:Nat→Int→(Int×Unit)×(g8×Unit)→RS
 | 0,_,z=>some ((z.1.1,()),(z.2.1,()))
 | c+1,L,z=>(cz (L+(c:Int)) z.1.1 z.2.1.1 z.2.1.2.1 z.2.1.2.2.1 z.2.1.2.2.2.1).bind (vD c L)
theorem A3 {L a:Int} {s:P0} {i:Int} {ns:List ab}:cz L a s i true ns=some ((a,()),((s,i,true,ns,()),())):=by
 rw[p7]
 rfl
theorem wA : ∀(c:Nat) (L a:Int) (s:P0) (i:Int) (ns:List ab),vD c L ((a,()),((s,i,true,ns,()),()))=some ((a,()),((s,i,true,ns,()),()))
 | 0,_,_,_,_,_=>rfl
 | c+1,L,a,s,i,ns=>by
  show(cz _ a s i true ns).bind (vD c L)=_
  rw[A3]
  exact wA c L a s i ns
theorem EH : ∀(c:Nat) (L:Int) (z:(Int×Unit)×(g8×Unit)),vD (c+1) L z=(vD c (L+1) z).bind fun z2=>cz L z2.1.1 z2.2.1.1 z2.2.1.2.1 z2.2.1.2.2.1 z2.2.1.2.2.2.1
 | 0,L,z=>by
  show(cz (L+((0:Nat):Int)) z.1.1 z.2.1.1 z.2.1.2.1 z.2.1.2.2.1 z.2.1.2.2.2.1).bind (fun z=>some ((z.1.1,()),(z.2.1,())))=cz L z.1.1 z.2.1.1 z.2.1.2.1 z.2.1.2.2.1 z.2.1.2.2.2.1
  rw[eE,show L+((0:Nat):Int)=L by omega]
 | c+1,L,z=>by
  show(cz (L+((c+1:Nat):Int)) z.1.1 z.2.1.1 z.2.1.2.1 z.2.1.2.2.1 z.2.1.2.2.2.1).bind (vD (c+1) L)=((cz (L+1+(c:Int)) z.1.1 z.2.1.1 z.2.1.2.1 z.2.1.2.2.1 z.2.1.2.2.2.1).bind (vD c (L+1))).bind _
  rw[show L+((c+1:Nat):Int)=L+1+(c:Int) by omega,Option.bind_assoc]
  congr 1
  funext y
  exact EH c L y
theorem Aa {s:P0} {a:Int} {ns:List ab} : ∀(c:Nat) (L:Int),L+(c:Int)=5→1≤L→dt L s a false ns=(dt 5 s a false ns).bind (vD c L)
 | 0,L,h,_=>by
  have:L=5:=by omega
  subst this
  exact eE.symm
 | c+1,L,h,h1=>by
  have hL : ¬(L == 5)=true:=by simp only[beq_iff_eq]; omega
  rw[vi,P4 (by decide),P4 hL,wr (by omega) (by omega),Aa c (L+1) (by omega) (by omega),Option.bind_assoc]
  congr 1
  funext z
  exact(EH c L z).symm
abbrev nB (op a b:Int):ab:=(5,op,(0,0,(⟨#[]⟩:P0),()),((0,0,()),false,false,()),((0,0,()),false,false,()),([a,b]:(List Int)),())
theorem LZ {s m' l1 l2:ae} {L':Int} {x:ab} {ns:List ab} {K:(Int×Unit)×(lV×Unit)→RI} {K':(Int×Unit)×(g8×Unit)→RS} (hsx:qg x=true) (ho:cN ns=true) (hn:ns.length≤60)
  (hg:cN (ns++[x])=true→(ns++[x]).length≤60→jH s m' L' (K (((ns.length:Int),()),((ba l1,ns++[x],false,()),()))) (K' (((ns.length:Int),()),((ba s,bA s l2,false,ns++[x],()),()))))
  (hd : ∀(i:Int) (b1:Bool) (ns1:List ab),Dm b1 ns1→ns1.length≤60→jH s m' L' (K ((i,()),((ba l1,ns1,b1,()),()))) (K' (((ns.length:Int),()),((ba s,bA s l2,true,ns++[x],()),())))) :
  jH s m' L' ((aR x (ba l1) false ns).bind K) ((bM x (ba s) (bA s l2) false ns).bind K'):=by
 have hx:=EF hsx
 obtain⟨i,e,hi⟩:=ww (x:=x) (l:=l1) (b:=false) hn
 rw[e,AY (by omega) hx]
 simp only[P1]
 by_cases hlt:ns.length < 60
 ·have hi:=hi rfl hlt
  subst hi
  have d60:decide (60≤ns.length)=false:=S3 (by omega)
  simp only[d60,hlt,and_self,S2,bf_]
  cases hk:dM x with
  | true =>
   refine hg ?_ ?_
   ·unfold cN at ho ⊢
    rw[ac_,ho]
    simp[hk]
   ·rw[P6,P3]; omega
  | false =>
   refine hd _ false (ns++[x]) ⟨.inr ?_,GT (tw ho) hsx⟩ ?_
   ·unfold cN
    rw[ac_]
    simp[hk]
   ·rw[P6,P3]; omega
 ·have d60:decide (60≤ns.length)=true:=R5 (by omega)
  rw[d60,P4 (by omega)]
  simp only[bf_,Bool.true_or]
  exact hd i true ns (zZ ho) hn
theorem L0 {s:ae} (hs:s.length≤200) {n:Nat} (HB:Kp s n) : ∀(k c:Nat) (l1 l2 M:ae),(bl l1).length=k→bl l1=bl l2→l1 <:+ M→l2 <:+ M→M <:+ s→(bl l1).length≤n → ∀(L left deep:Int) (ns:List ab),1≤L→L+(c:Int)≤5→0≤deep→deep+((bl l1).length:Int)≤200→cN ns=true→ns.length≤60→(dT (bl l1)=0∨cJ (dT (bl l1)) < L+(c:Int)) →
  jH s M L (dB L deep left (ba l1) false ns) (vD c L ((left,()),((ba s,bA s l2,false,ns,()),()))):=by
 intro k
 induction k using Nat.strongRecOn with
 | ind k ih =>
  intro c
  induction c with
  | zero =>
   intro l1 l2 M hk hb hs1 hs2 hMs hln L left deep ns hL0 hL1 hd0 hd ho hn hpost
   have hl1:=aA (ac hs1 hMs)
   have hbl:=aA (ao l1)
   obtain⟨o1,o2⟩:=m5 (bl l1)
   rw[gL]
   simp only[S8,S2]
   rw[xU (by omega),A2 o1 o2 (by omega) (fun h=>by rw[cM]; exact to h),P5 (by omega)]
   refine .inl ⟨left,bl l1,l2,ns,rfl,rfl,by rw[cM,hb],ac (ao l1) hs1,hs2,ho,hn,?_⟩
   rw[cM]
   omega
  | succ c ihc =>
   intro l1 l2 M hk hb hs1 hs2 hMs hln L left deep ns hL0 hL1 hd0 hd ho hn hpost
   have hl1:=aA (ac hs1 hMs)
   have hbl:=aA (ao l1)
   have hs2s:=ac hs2 hMs
   obtain⟨o1,o2⟩:=m5 (bl l1)
   obtain⟨l',hl',eop⟩:=N6 (s:=s) (l:=l2) (ns:=ns) (L:=L+(c:Int)) (by omega) (by omega) hs2s
   have hCh:vD (c+1) L ((left,()),((ba s,bA s l2,false,ns,()),()))=(cz (L+(c:Int)) left (ba s) (bA s l2) false ns).bind (vD c L):=rfl
   rw[hCh,p7]
   simp only[S8,S2]
   rw[eop,←hb]
   by_cases hop:dT (bl l1)≠0∧cJ (dT (bl l1))=L+(c:Int)
   ·rw[P5 hop]
    have h0 : ¬(dT (bl l1) == 0)=true:=by simpa using hop.1
    unfold tu
    simp only[P1]
    rw[P4 h0,←hb,wr (by omega) (by omega)]
    have hlt:=EE hop.1
    have hX:(bl l1).drop (dn (dT (bl l1))).length <:+ M:=ac (dS _ _) (ac (ao l1) hs1)
    have hXM:=aA hX
    have hXl:((bl l1).drop (dn (dT (bl l1))).length).length < (bl l1).length:=by
     have:=EE (l:=bl l1) (by rw[cM]; exact hop.1)
     rw[cM] at this
     exact this
    have hbX:=aA (ao ((bl l1).drop (dn (dT (bl l1))).length))
    rw[gL]
    simp only[S8,S2]
    rw[xU (by omega),A2 o1 o2 (by omega) (fun h=>by rw[cM]; exact to h),P4 (by omega),cM,hop.2,Option.bind_assoc]
    have hMl:(bl l1).length≤M.length:=aA (ac (ao l1) hs1)
    refine mc (HB _ _ rfl (ac hX hMs) (ac hX hMs) (by omega) (L+(c:Int)+1) deep ns (by omega) (by omega) hd0 (by omega) ho hn) ?_ ?_
    ·intro i x1 x2 ns' e1 e2 e3 e4 e5 e6
     have hx1:x1 <:+ M:=ac e2 (ac (ao _) hX)
     have hx2:x2 <:+ M:=ac e3 (ac (ao _) hX)
     have hxl:=aA e2
     have hbx:=aA (ao x1)
     have hxM:=aA hx1
     have hMsl:=aA hMs
     simp only
     rw[Option.bind_assoc]
     refine LZ (x:=nB (dT (bl l1)) left i) rfl e4 e5 ?_ ?_
     ·intro a1 a2
      exact ih _ (by omega) (c+1) x1 x2 M rfl e1 hx1 hx2 hMs (by omega) L _ deep _ hL0 hL1 hd0 (by omega) a1 a2 (by omega)
     ·intro i2 b1 ns1 a1 a2
      simp only
      rw[A3]
      simp only[P1]
      rw[wA]
      refine fZ (tv _ x1 rfl (fun l' _ deep least b ns d0 d1 hn=>wy l' deep least b ns d0 d1 hn) L deep i2 b1 ns1 hd0 (by omega) a2) a1 hx1 rfl (ac hx2 hMs) ?_
      rw[P6,P3]
      omega
    ·intro i x1 b1 ns1 j x2 ns2 e1 e2 e3 e4 e5
     have hx1:x1 <:+ M:=ac e2 (ac (ao _) hX)
     have hxM:=aA hx1
     have hMsl:=aA hMs
     simp only
     rw[EG (x:=nB (dT (bl l1)) left j) (ns:=ns2) (by omega) Kq]
     simp only[P1]
     rw[A3]
     simp only[P1]
     rw[wA]
     obtain⟨i3,l3,b3,ns3,h3,j1,j2,j3⟩:=(dx (x:=nB (dT (bl l1)) left i) (l:=x1) (b:=b1) e3).dm e1
     rw[h3]
     simp only[P1]
     have hs3:=aA j1
     refine fZ (tv _ l3 rfl (fun l' _ deep least b ns d0 d1 hn=>wy l' deep least b ns d0 d1 hn) L deep i3 b3 ns3 hd0 (by omega) j3) j2 (ac j1 hx1) rfl e4 ?_
     rw[P6,P3]
     omega
   ·rw[P4 hop]
    unfold tu
    simp only[P1]
    rw[P5 (by rfl)]
    simp only[P1]
    have hb':bl l1=bl l':=by
     rcases hl' with rfl | rfl
     ·exact hb
     ·rw[cM,hb]
    have hs':l' <:+ M:=by
     rcases hl' with rfl | rfl
     ·exact hs2
     ·exact ac (ao l2) hs2
    exact ihc l1 l' M hk hb' hs1 hs' hMs hln L left deep ns hL0 (by omega) hd0 hd ho hn (by omega)
theorem Ks {s:ae} (hs:s.length≤200) : ∀ n,Kp s n
 | 0=>fun l l0 _ _ _ h=>by omega
 | n+1=>by
  have HB:=Ks hs n
  intro l l0 hb hs1 hs2 hln L deep ns hL0 hL1 hd0 hd ho hn
  have hms:bl l <:+ s:=ac (ao l) hs1
  have hm:=aA hms
  rw[nD,Aa (5 - L).toNat L (by omega) hL0,Mt]
  refine mc (Kr hs HB _ l l0 rfl hb hs1 hs2 (by omega) deep ns hd0 hd ho hn) ?_ ?_
  ·intro i x1 x2 ns' e1 e2 e3 e4 e5 _
   have hbx:=aA (ao x1)
   have hx:=aA e2
   exact L0 hs HB _ (5 - L).toNat x1 x2 (bl l) rfl e1 e2 e3 hms (by omega) L i deep ns' hL0 (by omega) hd0 (by omega) e4 e5 (.inr (by have:=IB (dT (bl x1)); omega))
  ·intro i x1 b1 ns1 j x2 ns2 e1 e2 e3 e4 e5
   have hx:=aA e2
   rw[wA]
   exact fZ (tv _ x1 rfl (fun l' _ deep least b ns d0 d1 hn=>wy l' deep least b ns d0 d1 hn) L deep i b1 ns1 hd0 (by omega) e3) e1 e2 rfl e4 e5
theorem IE {ns:List ab} (h:sm ns=true) : ∀ x∈ns,x.2.2.1.2.2.1.size≤9223372036854775807:=by
 unfold sm at h
 rw[W6] at h
 exact fun x hx=>EF (h x hx)
theorem IG {ns:List ab} (h:sm ns=true) : ∀ x∈ns,x.2.2.2.2.2.1.length≤10000000:=by
 unfold sm at h
 rw[W6] at h
 intro x hx
 have:=h x hx
 unfold qg at this
 rw[P8,Q0,Q0] at this
 omega
theorem N7 (s:ae):bA s s=0:=by
 unfold bA
 omega
theorem OU {x:P0} (hx:x.size≤9223372036854775807) : ∃(f:List ab) (b:Bool),oW x=some ((f,b,()),())∧o4 x=some ((f,b,()),())∧(b=true→nI f=true)∧(b=false→f=[]):=by
 obtain⟨s,rfl⟩ : ∃ s,x=ba s:=⟨lb x,(ic x).symm⟩
 rw[zn,zx,qF hx,tj hx]
 simp only[P1]
 cases hp:(plain (ba s) && decide (((ba s).size:Int)≤200)) with
 | false=>exact⟨[],false,rfl,rfl,(fun h=>by cases h),fun _=>rfl⟩
 | true =>
  rw[P8,Q0,aJ] at hp
  have hs:s.length≤200:=by omega
  have hbl:=aA (ao s)
  have h:=Ks hs (s.length+1) s s rfl (kg s) (kg s) (by omega) 1 0 [] (by decide) (by decide) (by decide) (by omega) rfl (by simp)
  rw[N7] at h
  simp only[S1,P9,R0]
  rcases h with⟨i,l1,l2,ns,e1,e2,h1,h2,h3,h4,h5,h6⟩ | ⟨i,l1,b1,ns1,j,l2,ns2,e1,h1,h2,h3,e2,h4,h5⟩
  ·rw[e1,e2]
   simp only[P1]
   rw[Ep (by omega) (ac h3 (ao s)),lB]
   simp only[P1,P9,R0]
   have e0:(P2 (ba (bl l1)) == P2 (⟨#[]⟩:P0))=decide (bl l1=[]):=cY (b:=[])
   rw[e0,←h1,aJ,nk (by omega) (IE (tw h4)) (IG (tw h4)),t7 (by omega) (IE (tw h4)) (IG (tw h4))]
   simp only[P1]
   by_cases hr:bl l1=[]
   ·rw[aq (by rw[hr]; unfold bA; simp),hr]
    simp only[U5,S1,P9,R0]
    cases hk:nI ns with
    | true=>exact⟨ns,true,rfl,rfl,fun _=>hk,fun h=>by cases h⟩
    | false=>exact⟨[],false,rfl,rfl,(fun h=>by cases h),fun _=>rfl⟩
   ·have hlen:=ak_.2 hr
    have hls:=aA (ac (ac (ao l1) h2) (ao s))
    rw[ay (by unfold bA; omega)]
    simp only[hr,V5,S8,S2]
    exact⟨[],false,rfl,rfl,(fun h=>by cases h),fun _=>rfl⟩
  ·rw[e1,e2]
   simp only[P1]
   rw[Ep (by omega) h4,lB]
   simp only[P1,S2]
   refine⟨[],false,rfl,?_,(fun h=>by cases h),fun _=>rfl⟩
   cases b1 with
   | true=>rfl
   | false =>
    have hbad:cN ns1=false:=h1.1.elim (fun h=>by cases h) id
    simp only[P9,R0]
    split
    ·rfl
    ·rw[nk (by omega) (IE h1.2) (IG h1.2)]
     simp only[P1]
     cases hk:nI ns1 with
     | false=>rfl
     | true =>
      exfalso
      have:cN ns1=true:=by
       unfold cN
       rw[W6]
       intro y hy
       obtain⟨i,hi⟩:=bw_ hy
       exact(tn hk i y hi).1
      rw[this] at hbad
      cases hbad
def qT:ae→ae
 | []=>[]
 | c :: l=>if c=34 then 34 :: 34 :: qT l else c :: qT l
theorem Kt : ∀ l:ae,(qT l).length≤2*l.length
 | []=>by simp[qT]
 | c :: l=>by
  have:=Kt l
  unfold qT
  split <;> simp only[Q1] <;> omega
theorem EI (l:ae) : ∀ pre:ae,(34:UInt8) ∉ pre→qT (pre++l)=pre++qT l
 | [],_=>rfl
 | c :: pre,h=>by
  simp only[R4,not_or] at h
  rw[Z7,qT,P4 (fun e=>h.1 e.symm),EI l pre h.2]
  rfl
theorem II : ∀(n:Nat) (l:ae),l.length=n→Lib.replaceK [34] [34,34] (l.count 34) l=qT l:=by
 intro n
 induction n using Nat.strongRecOn with
 | ind n ih =>
  intro l hn
  by_cases hm:(34:UInt8)∈l
  ·obtain⟨pre,t,rfl,h2⟩:=xW 34 l hm
   have hc:(pre++34 :: t).count 34=t.count 34+1:=by
    rw[List.count_append,List.count_eq_zero.2 h2,List.count_cons_self]
    omega
   have hi:Lib.index (pre++34 :: t) [34]=(pre.length:Nat):=by rw[Lib.index_one,AZ 34 t pre h2]
   rw[hc,Lib.replaceK_hit _ _ _ _ _ hi,List.take_left' rfl,EI _ pre h2]
   have hd:(pre++34 :: t).drop (pre.length+([34]:ae).length)=t:=by
    have:pre++34 :: t=(pre++[34])++t:=by simp
    rw[this,List.drop_left' (by simp)]
   rw[hd,ih t.length (by rw[←hn]; simp; omega) t rfl]
   simp[qT]
  ·rw[List.count_eq_zero.2 hm]
   have:=EI [] l hm
   rw[T8] at this
   rw[this]
   simp[qT,Lib.replaceK]
theorem Gb {l:ae} (hl:l.length≤1000000):strings_ReplaceAll (ba l) (⟨#[34]⟩:P0) (⟨#[34,34]⟩:P0)=some ((ba (qT l),()),()):=by
 rw[rG]
 have hcount:Lib.countB (ba l) (ba [34])=l.count 34:=by
  show Lib.count (lb (ba l)) (lb (ba [34]))=_
  rw[dc,dc,Lib.count_one]
 have hle:l.count 34≤l.length:=List.count_le_length
 show(if(ba l).size < 4294967281∧1≤(ba [34]).size∧(ba l).size+Lib.countB (ba l) (ba [34])*(ba [34,34]).size≤140737488355328 then some (((⟨(Lib.replaceAll (lb (ba l)) (lb (ba [34])) (lb (ba [34,34]))).toArray⟩:P0),()),()) else none)=_
 rw[P5 ⟨by rw[aJ]; omega,by decide,by rw[hcount,aJ,aJ]; simp only[Q1,S4]; omega⟩,dc,dc,dc]
 congr 3
 show ba (Lib.replaceAll l [34] [34,34])=_
 unfold Lib.replaceAll Lib.replace Lib.replaceNum
 rw[P4 (by decide),P5 (.inl (by decide)),Lib.count_one,II _ l rfl]
theorem qN {s:ae} (hs:s.length≤1000000) : ∀(l acc:ae),l <:+ s→acc.length+2*l.length≤4000000→jz (ba s) (ba acc) (bA s l)=some ((ba (acc++qT l++[34]),()),())
 | [],acc,h,ha=>by
  rw[rK,aq (by rw[aJ]; unfold bA; simp),show(⟨#[34]⟩:P0)=ba [34] from rfl,bm (by simp only[P3]; simp at ha; omega)]
  simp[qT]
 | c :: l,acc,h,ha=>by
  obtain⟨pre,h1,h2⟩:=kf h
  have hl:pre.length+l.length+1=s.length:=by rw[h1]; simp; omega
  rw[Q1] at ha
  have h':l <:+ s:=ac ⟨[c],rfl⟩ h
  have e1:(pre.length:Int)+1=bA s l:=by
   unfold bA
   omega
  have e3:(s.take (pre.length+1)).drop pre.length=[c]:=by
   rw[h1,List.take_append,List.drop_append]
   simp
  rw[rK,h2,ay (by rw[aJ]; omega),fO h1,AU c 34 (n:=34) rfl,wr (by omega) (by omega),show(pre.length:Int)+1=((pre.length+1:Nat):Int) by omega,rU (by omega) (by omega),e3]
  by_cases hc:c=34
  ·subst hc
   rw[ay rfl,show(⟨#[34]⟩:P0)=ba [34] from rfl,bm (by simp only[P3]; omega),rU (by omega) (by omega),e3,bm (by simp only[P6,P3]; omega),show((pre.length+1:Nat):Int)=bA s l by omega,qN hs l _ h' (by simp only[P6,P3]; omega)]
   simp[qT]
  ·rw[aq hc,bm (by simp only[P3]; omega),show((pre.length+1:Nat):Int)=bA s l by omega,qN hs l _ h' (by simp only[P6,P3]; omega)]
   simp[qT,hc]
theorem Ku {l:ae} (hl:l.length≤1000000):xD (ba l)=some ((ba (34 :: (qT l++[34])),()),()):=by
 rw[FP,show(⟨#[34]⟩:P0)=ba [34] from rfl]
 have:=qN hl l [34] (kg l) (by simp only[P3]; omega)
 rw[N7] at this
 rw[this]
 simp
def cA:List ae→ae
 | []=>[]
 | [x]=>x
 | x :: y :: l=>x++44 :: cA (y :: l)
def cB (f:List ab):Nat→Int→Int→ae
 | 0,_,_=>[]
 | n+1,k,L =>
  let x:=Ed f k
  if x.1=1 then(if x.2.2.1.1=2 then 34 :: (qT (lb x.2.2.1.2.2.1)++[34]) else lb (dh x.2.2.1))
  else if x.1=2 then ji x.2.2.2.1
  else if x.1=3 then ji x.2.2.2.1++58 :: ji x.2.2.2.2.1
  else if x.1=4 then 45 :: cB f n (x.2.2.2.2.2.1.getD 0 0) 5
  else if x.1=5 then
   let b:=cB f n (x.2.2.2.2.2.1.getD 0 0) (cJ x.2.1)++(dn x.2.1++cB f n (x.2.2.2.2.2.1.getD 1 0) (cJ x.2.1+1))
   if cJ x.2.1 < L then 40 :: (b++[41]) else b
  else ek x.2.1++40 :: (cA (x.2.2.2.2.2.1.map fun k=>cB f n k 1)++[41])
theorem xe : ∀ l:List ae,cA l=Lib.join l [44]
 | []=>rfl
 | [x]=>by rw[Lib.join_one]; rfl
 | x :: y :: l=>by
  rw[cA,xe (y :: l),Lib.join_cons,Lib.join_cons]
  simp[Lib.joinTail]
theorem xf (x:ae) : ∀(l:List ae),l≠[]→cA (l++[x])=cA l++44 :: x
 | [y],_=>rfl
 | y :: z :: l,_=>by
  show y++44 :: cA (z :: l++[x])=(y++44 :: cA (z :: l))++44 :: x
  rw[xf x (z :: l) (by simp)]
  simp
theorem Ab : ∀ l:List ae,(cA l).length≤(l.map Q2).sum+l.length
 | []=>by simp[cA]
 | [x]=>by simp[cA]
 | x :: y :: l=>by
  have:=Ab (y :: l)
  simp only[cA,P6,Q1,V6,List.sum_cons] at this ⊢
  omega
theorem L1 {xs:List ae} (h1:xs.length≤1000) (h2:(cA xs).length≤10000000):strings_Join (xs.map fun x=>ba x) (⟨#[44]⟩:P0)=some ((ba (cA xs),()),()):=by
 rw[zz]
 have e:(xs.map fun x=>ba x).map (·.data.toList)=xs:=by
  rw[List.map_map]
  conv=>rhs; rw[←List.map_id xs]
  apply List.map_congr_left
  intro x _
  exact dc x
 show(if(xs.map fun x=>ba x).length≤140737488355328∧(Lib.join ((xs.map fun x=>ba x).map (·.data.toList)) (lb (ba [44]))).length≤140737488355328 then some (((⟨(Lib.join ((xs.map fun x=>ba x).map (·.data.toList)) (lb (ba [44]))).toArray⟩:P0),()),()) else none)=_
 rw[e,dc,←xe,P5 ⟨by rw[W1]; omega,by omega⟩]
theorem A4 {p:b8} (h:bQ p.1=true):(ji p).length≤6:=by
 obtain⟨c,r,fc,fr,rfl,h1,h2,h3,h4⟩:=vz h
 have k1:=pC c
 have k2:=n4 h4
 show(rV c r fc fr).length≤6
 unfold rV l9
 simp only[P6]
 cases fc <;> cases fr <;> simp <;> omega
theorem GU (k:Int):(ek k).length≤5:=by
 unfold ek
 by_cases hi:k.toNat < 11
 ·have h : ∀ j:Fin 11,(([[],[83,85,77],[77,73,78],[77,65,88],[67,79,85,78,84],[73,70],[65,78,68],[79,82],[78,79,84],[65,66,83],[76,69,78]]:List ae).getD j.val []).length≤5:=by decide
  exact h ⟨k.toNat,hi⟩
 ·rw[S7,List.getElem?_eq_none (by simp; omega)]
  simp
theorem EJ {c:Int→Option (Int×Nat)} {f:List ab} {call:Bool} : ∀(l:List Int) (cur:Int) (h:Nat) (s:Int) (h':Nat),dZ c f call l cur h=some (s,h') →
  (∀ kid∈l,∃ p,c kid=some p) ∧ ∀ g:Int→Nat,(∀ kid s' h'',c kid=some (s',h'')→(g kid:Int)≤1000*(kid - s'+1))→(((l.map g).sum:Nat):Int)≤1000*(cur - s)
 | [],cur,h,s,h',e=>by
  simp only[dZ,R8,bd_] at e
  obtain⟨rfl,_⟩:=e
  exact⟨fun _ h=>by simp at h,fun g _=>by simp⟩
 | kid :: l,cur,h,s,h',e=>by
  simp only[dZ] at e
  split at e
  ·rename_i hk
   rw[Option.bind_eq_some_iff] at e
   obtain⟨p,hp,e⟩:=e
   obtain⟨k1,k2⟩:=EJ l p.1 _ s h' e
   refine⟨fun kid' hm => ?_,fun g hg => ?_⟩
   ·rcases R4.1 hm with rfl | hm
    ·exact⟨p,hp⟩
    ·exact k1 kid' hm
   ·have h1:=k2 g hg
    have h2:=hg kid p.1 p.2 hp
    have:=hk.1
    simp only[V6,List.sum_cons]
    omega
  ·cases e
section
variable {f:List ab}
theorem EK (n:Nat) (k:Int):cB f n k 0=cB f n k 1:=by
 cases n with
 | zero=>rfl
 | succ n =>
  have hlv : ∀ j,¬cJ j < 0 ∧ ¬cJ j < 1:=by
   intro j
   unfold cJ
   constructor <;> (repeat' split) <;> omega
  unfold cB
  simp only[(hlv _).1,(hlv _).2,R0]
def IJ (f:List ab) (n:Nat) (k:Int):Prop := ∀ L:Int,eg f k L=some ((ba (cB f n k L),()),())∧ja f k L=some ((ba (cB f n k L),()),())
theorem Ac {n:Nat} {kids:List Int} {a op:Int} {v:aD} {A B:b8} {kids':List Int} (hop:0≤op∧op≤10) (hl:kids.length≤10) (hk : ∀ k∈kids,IJ f n k) (hlen:(cA (kids.map fun k=>cB f n k 1)).length≤1000000) : ∀(ys pre:List Int),kids=pre++ys →
  gJ f kids (kids.length:Int) (pre.length:Int) a op v A B kids' ((pre.map fun k=>cB f n k 1).map fun x=>ba x)=some ((ba (ek op++40 :: (cA (kids.map fun k=>cB f n k 1)++[41])),()),())
 | [],pre,h=>by
  rw[T8] at h
  subst h
  have hf:=GU op
  rw[lI,aq (bz_ _),zX hop.1 hop.2]
  simp only[P1]
  rw[show(⟨#[40]⟩:P0)=ba [40] from rfl,bm (by simp only[P3]; omega),L1 (by rw[W1]; omega) (by omega)]
  simp only[P1]
  rw[bm (by simp only[P6,P3]; omega),show(⟨#[41]⟩:P0)=ba [41] from rfl,bm (by simp only[P6,P3]; omega)]
  simp
 | y :: ys,pre,h=>by
  rw[lI,ay (bo h),bk h,(hk y (by rw[h]; simp) 1).1]
  simp only[P1]
  have hpl:pre.length≤10:=by
   have:=Q3 Q2 h
   simp at this
   omega
  rw[bv (by simp only[W1,P3]; omega),aH h (by omega)]
  have:=Ac (a:=a) (v:=v) (A:=A) (B:=B) (kids':=kids') hop hl hk hlen ys (pre++[y]) (aI h)
  rw[cd_,cd_] at this
  exact this
theorem Ad {n:Nat} {kids:List Int} {a op:Int} {v:aD} {A B:b8} (hl:kids.length≤10) (hk : ∀ k∈kids,IJ f n k) (hlen : ∀ pre ys:List Int,kids=pre++ys→(cA (pre.map fun k=>cB f n k 1)).length≤1000000) (hop:(ek op).length≤5) : ∀(ys pre:List Int),kids=pre++ys →
  jA f (ba (ek op++40 :: cA (pre.map fun k=>cB f n k 1))) (pre.length:Int) a op v A B kids=some ((ba (ek op++40 :: (cA (kids.map fun k=>cB f n k 1)++[41])),()),())
 | [],pre,h=>by
  have h0:=hlen pre [] h
  rw[T8] at h
  subst h
  rw[rL,aq (bz_ _),show(⟨#[41]⟩:P0)=ba [41] from rfl,bm (by simp only[P6,Q1,S4]; omega)]
  simp
 | y :: ys,pre,h=>by
  have h0:=hlen pre (y :: ys) h
  have h1:=hlen (pre++[y]) ys (aI h)
  have hpl:pre.length≤10:=by
   have:=Q3 Q2 h
   simp at this
   omega
  have ih:=Ad (a:=a) (v:=v) (A:=A) (B:=B) hl hk hlen hop ys (pre++[y]) (aI h)
  rw[cd_,List.map_singleton] at ih h1
  rw[rL,ay (bo h)]
  by_cases hp:pre=[]
  ·subst hp
   simp only[X6,List.map_nil,cA] at ih h1 ⊢
   rw[aq (by simp),bk (pre:=[]) h,(hk y (by rw[h]; simp) 0).2,EK]
   simp only[P1]
   rw[bm (by simp only[P6,Q1,S4]; omega),aH (pre:=[]) h (by omega)]
   have e:ek op++[40]++cB f n y 1=ek op++40 :: cB f n y 1:=by simp
   rw[e]
   exact ih
  ·have hpos:=ak_.2 hp
   rw[xf _ _ (by simpa using hp)] at ih h1
   simp only[P6,Q1] at h1
   rw[ay (by omega),show(⟨#[44]⟩:P0)=ba [44] from rfl,bm (by simp only[P6,Q1,S4]; omega),bk h,(hk y (by rw[h]; simp) 0).2,EK]
   simp only[P1]
   rw[bm (by simp only[P6,Q1,S4]; omega),aH h (by omega)]
   have e:ek op++40 :: cA (pre.map fun k=>cB f n k 1)++[44]++cB f n y 1=ek op++40 :: (cA (pre.map fun k=>cB f n k 1)++44 :: cB f n y 1):=by simp
   rw[e]
   exact ih
end
section
variable {f:List ab}
theorem N8 {l:List Int} (h:l.length=2) : ∃ a b,l=[a,b]:=by
 match l,h with
 | [a,b],_=>exact⟨a,b,rfl⟩
theorem GV (hf:f.length≤60) : ∀(n:Nat) (k s:Int) (h:Nat),dN f n k=some (s,h)→IJ f n k ∧ ∀ L:Int,((cB f n k L).length:Int)≤1000*(k - s+1)
 | 0,k,s,h,e=>by simp[dN] at e
 | n+1,k,s,h,e=>by
  have hall:=fA f (n+1) k s h e
  obtain⟨hs0,hsk,_⟩:=hall
  have IH:=GV hf n
  simp only[dN] at e
  split at e
  ·rename_i h0
   split at e
   ·cases e
   ·rename_i x hx
    split at e
    ·rename_i hok
     obtain⟨q1,q2⟩:=EJ _ _ _ _ _ e
     have hkl:k < 60:=by
      have:=(List.getElem?_eq_some_iff.1 hx).1
      omega
     have hK : ∀ kid∈x.2.2.2.2.2.1,IJ f n kid ∧ ∃ s' h',dN f n kid=some (s',h'):=by
      intro kid hm
      obtain⟨p,hp⟩:=q1 kid (List.mem_reverse.2 hm)
      exact⟨(IH kid p.1 p.2 hp).1,p.1,p.2,hp⟩
     have hnode:Ed f k=x:=by
      unfold Ed
      rw[S7,hx]
      rfl
     have hfx : ∀ L,cB f (n+1) k L=(if x.1=1 then(if x.2.2.1.1=2 then 34 :: (qT (lb x.2.2.1.2.2.1)++[34]) else lb (dh x.2.2.1))
      else if x.1=2 then ji x.2.2.2.1
      else if x.1=3 then ji x.2.2.2.1++58 :: ji x.2.2.2.2.1
      else if x.1=4 then 45 :: cB f n (x.2.2.2.2.2.1.getD 0 0) 5
      else if x.1=5 then(if cJ x.2.1 < L then 40 :: ((cB f n (x.2.2.2.2.2.1.getD 0 0) (cJ x.2.1)++(dn x.2.1++cB f n (x.2.2.2.2.2.1.getD 1 0) (cJ x.2.1+1)))++[41]) else(cB f n (x.2.2.2.2.2.1.getD 0 0) (cJ x.2.1)++(dn x.2.1++cB f n (x.2.2.2.2.2.1.getD 1 0) (cJ x.2.1+1))))
      else ek x.2.1++40 :: (cA (x.2.2.2.2.2.1.map fun k=>cB f n k 1)++[41])):=by
      intro L
      conv=>lhs; unfold cB
      rw[hnode]
     have hI : ∀ L,eg f k L=_:=fun L=>(zy (x0:=f) (x1:=k) (x2:=L)).trans (cX h0 hx)
     have hS : ∀ L,ja f k L=_:=fun L=>(H1 (x0:=f) (x1:=k) (x2:=L)).trans (cX h0 hx)
     unfold dM kl at hok
     by_cases c1:x.1=1
     ·rw[P5 c1] at hok
      simp only[P8,Q0] at hok
      have hv:=hok.1.1.2
      have hsz:=fN hv
      have b1:(x.1 == 1)=true:=by rw[c1]; rfl
      by_cases c2:x.2.2.1.1=2
      ·have b2:(x.2.2.1.1 == 2)=true:=by rw[c2]; rfl
       have hlb:(lb x.2.2.1.2.2.1).length≤200:=by rw[wq]; exact hsz
       have hq:=Kt (lb x.2.2.1.2.2.1)
       have ea : ∀ L,cB f (n+1) k L=34 :: (qT (lb x.2.2.1.2.2.1)++[34]):=fun L=>by rw[hfx,P5 c1,P5 c2]
       refine⟨fun L=>⟨?_,?_⟩,fun L => ?_⟩
       ·rw[hI,P5 b1,P5 b2,←ic x.2.2.1.2.2.1,Gb (by omega)]
        simp only[P1]
        rw[show(⟨#[34]⟩:P0)=ba [34] from rfl,bm (by simp only[P3]; omega),bm (by simp only[P6,P3]; omega),ea]
        simp
       ·rw[hS,P5 b1,P5 b2,←ic x.2.2.1.2.2.1,Ku (by omega)]
        simp only[P1]
        rw[ea]
       ·rw[ea]
        simp only[Q1,P6,S4]
        omega
      ·have b2 : ¬(x.2.2.1.1 == 2)=true:=by simpa using c2
       have hvs:=J7 hv
       have ea : ∀ L,cB f (n+1) k L=lb (dh x.2.2.1):=fun L=>by rw[hfx,P5 c1,P4 c2]
       refine⟨fun L=>⟨?_,?_⟩,fun L => ?_⟩
       ·rw[hI,P5 b1,P4 b2,t6 hv,ea,ic]
        rfl
       ·rw[hS,P5 b1,P4 b2,jR (qc hv),P5 hv,ea,ic]
        rfl
       ·rw[ea,wq]
        omega
     rw[P4 c1] at hok
     have b1 : ¬(x.1 == 1)=true:=by simpa using c1
     by_cases c2:x.1=2
     ·rw[P5 c2] at hok
      simp only[P8,Q0] at hok
      have b2:(x.1 == 2)=true:=by rw[c2]; rfl
      have hr:=hok.2
      have hp:=A4 hr
      have ea : ∀ L,cB f (n+1) k L=ji x.2.2.2.1:=fun L=>by rw[hfx,P4 c1,P5 c2]
      refine⟨fun L=>⟨?_,?_⟩,fun L => ?_⟩
      ·rw[hI,P4 b1,P5 b2,jT,P5 hr,ea]
       rfl
      ·rw[hS,P4 b1,P5 b2,nl,P5 hr,ea]
       rfl
      ·rw[ea]
       omega
     rw[P4 c2] at hok
     have b2 : ¬(x.1 == 2)=true:=by simpa using c2
     by_cases c3:x.1=3
     ·rw[P5 c3] at hok
      simp only[P8,Q0] at hok
      have b3:(x.1 == 3)=true:=by rw[c3]; rfl
      have ha:=hok.2
      unfold lx at ha
      simp only[P8,Q0] at ha
      have hr1:=ha.1.1.1
      have hr2:=ha.1.1.2
      have hp1:=A4 hr1
      have hp2:=A4 hr2
      have ea : ∀ L,cB f (n+1) k L=ji x.2.2.2.1++58 :: ji x.2.2.2.2.1:=fun L=>by rw[hfx,P4 c1,P4 c2,P5 c3]
      refine⟨fun L=>⟨?_,?_⟩,fun L => ?_⟩
      ·rw[hI,P4 b1,P4 b2,P5 b3,jT,P5 hr1]
       simp only[P1]
       rw[show(⟨#[58]⟩:P0)=ba [58] from rfl,bm (by simp only[P3]; omega),jT,P5 hr2]
       simp only[P1]
       rw[bm (by simp only[P6,P3]; omega),ea]
       simp
      ·rw[hS,P4 b1,P4 b2,P5 b3,nl,P5 hr1]
       simp only[P1]
       rw[show(⟨#[58]⟩:P0)=ba [58] from rfl,bm (by simp only[P3]; omega),nl,P5 hr2]
       simp only[P1]
       rw[bm (by simp only[P6,P3]; omega),ea]
       simp
      ·rw[ea]
       simp only[P6,Q1]
       omega
     rw[P4 c3] at hok
     have b3 : ¬(x.1 == 3)=true:=by simpa using c3
     by_cases c4:x.1=4
     ·rw[P5 c4] at hok
      simp only[P8,Q0] at hok
      have b4:(x.1 == 4)=true:=by rw[c4]; rfl
      obtain⟨a,hkids⟩ : ∃ a,x.2.2.2.2.2.1=[a]:=List.length_eq_one_iff.1 (by omega)
      obtain⟨hka,sa,ha,hca⟩:=hK a (by rw[hkids]; simp)
      rw[hkids] at e q2 hI hS hfx
      have hla:=fun L=>(IH a sa ha hca).2 L
      simp only[List.reverse_singleton,dZ] at e
      split at e
      ·rename_i hc
       rw[hca] at e
       simp only[P1,R8,bd_] at e
       obtain⟨rfl,_⟩:=e
       have ea : ∀ L,cB f (n+1) k L=45 :: cB f n a 5:=fun L=>by rw[hfx,P4 c1,P4 c2,P4 c3,P5 c4]; rfl
       have h5:=hla 5
       refine⟨fun L=>⟨?_,?_⟩,fun L => ?_⟩
       ·rw[hI,P4 b1,P4 b2,P4 b3,P5 b4,cX (y:=a) (by decide) rfl,(hka 5).1]
        simp only[P1]
        rw[show(⟨#[45]⟩:P0)=ba [45] from rfl,bm (by simp only[P3]; omega),ea]
        rfl
       ·rw[hS,P4 b1,P4 b2,P4 b3,P5 b4,cX (y:=a) (by decide) rfl,(hka 5).2]
        simp only[P1]
        rw[show(⟨#[45]⟩:P0)=ba [45] from rfl,bm (by simp only[P3]; omega),ea]
        rfl
       ·rw[ea]
        simp only[Q1]
        omega
      ·cases e
     rw[P4 c4] at hok
     have b4 : ¬(x.1 == 4)=true:=by simpa using c4
     by_cases c5:x.1=5
     ·rw[P5 c5] at hok
      simp only[P8,Q0] at hok
      have b5:(x.1 == 5)=true:=by rw[c5]; rfl
      obtain⟨o1,o2⟩:=bK.1 hok.1.1.1.1
      obtain⟨a,b,hkids⟩ : ∃ a b,x.2.2.2.2.2.1=[a,b]:=N8 (by omega)
      obtain⟨hka,sa,ha,hca⟩:=hK a (by rw[hkids]; simp)
      obtain⟨hkb,sb,hb,hcb⟩:=hK b (by rw[hkids]; simp)
      rw[hkids] at e q2 hI hS hfx
      have hla:=fun L=>(IH a sa ha hca).2 L
      have hlb:=fun L=>(IH b sb hb hcb).2 L
      have hsa:=fA f n a sa ha hca
      have hsb:=fA f n b sb hb hcb
      simp only[List.reverse_cons,List.reverse_nil,X6,Z7,dZ] at e
      split at e
      ·rename_i hc
       rw[hcb] at e
       simp only[P1] at e
       split at e
       ·rename_i hc2
        rw[hca] at e
        simp only[P1,R8,bd_] at e
        obtain⟨rfl,_⟩:=e
        have hlv:1≤cJ x.2.1∧cJ x.2.1≤4:=by
         unfold cJ
         constructor <;> (repeat' split) <;> omega
        have ho:=AX x.2.1
        have h1:=hla (cJ x.2.1)
        have h2:=hlb (cJ x.2.1+1)
        have i1:=hsa.2.1
        have i2:=hsb.2.1
        have ea : ∀ L,cB f (n+1) k L=if cJ x.2.1 < L then 40 :: ((cB f n a (cJ x.2.1)++(dn x.2.1++cB f n b (cJ x.2.1+1)))++[41]) else(cB f n a (cJ x.2.1)++(dn x.2.1++cB f n b (cJ x.2.1+1))):=fun L=>by rw[hfx,P4 c1,P4 c2,P4 c3,P4 c4,P5 c5]; rfl
        refine⟨fun L=>⟨?_,?_⟩,fun L => ?_⟩
        ·rw[hI,P4 b1,P4 b2,P4 b3,P4 b4,P5 b5,BX o1 o2]
         simp only[P1]
         rw[cX (y:=a) (by decide) rfl,(hka _).1]
         simp only[P1]
         rw[tq (by omega) o2]
         simp only[P1]
         rw[bm (by omega),cX (y:=b) (by decide) rfl,wr (by omega) (by omega),(hkb _).1]
         simp only[P1]
         rw[bm (by simp only[P6]; omega),ea]
         by_cases hL:cJ x.2.1 < L
         ·rw[ay hL,P5 hL,show(⟨#[40]⟩:P0)=ba [40] from rfl,bm (by simp only[P6,P3]; omega),show(⟨#[41]⟩:P0)=ba [41] from rfl,bm (by simp only[P6,P3]; omega)]
          simp
         ·rw[aq hL,P4 hL]
          simp
        ·rw[hS,P4 b1,P4 b2,P4 b3,P4 b4,P5 b5,qM]
         simp only[P1]
         rw[cX (y:=a) (by decide) rfl,(hka _).2]
         simp only[P1]
         rw[tr (by omega) o2]
         simp only[P1]
         rw[bm (by omega),cX (y:=b) (by decide) rfl,wr (by omega) (by omega),(hkb _).2]
         simp only[P1]
         rw[bm (by simp only[P6]; omega),ea]
         by_cases hL:cJ x.2.1 < L
         ·rw[ay hL,P5 hL,show(⟨#[40]⟩:P0)=ba [40] from rfl,bm (by simp only[P6,P3]; omega),show(⟨#[41]⟩:P0)=ba [41] from rfl,bm (by simp only[P6,P3]; omega)]
          simp
         ·rw[aq hL,P4 hL]
          simp
        ·rw[ea]
         split <;> simp only[P6,Q1,S4] <;> omega
       ·cases e
      ·cases e
     rw[P4 c5] at hok
     have b5 : ¬(x.1 == 5)=true:=by simpa using c5
     by_cases c6:x.1=6
     ·rw[P5 c6] at hok
      simp only[P8,Q0] at hok
      have hargs:=hok.1.1.1
      have hkn:1≤x.2.2.2.2.2.1.length∧x.2.2.2.2.2.1.length≤10∧0≤x.2.1∧x.2.1≤10:=by
       unfold py at hargs
       split at hargs
       ·simp only[Bool.or_eq_true,Q0] at hargs
        omega
       ·split at hargs
        ·rename_i hi
         have:=bK.1 hi
         have:=bK.1 hargs
         omega
        ·split at hargs
         ·rename_i hi
          have:=bK.1 hi
          simp only[Q0] at hargs
          omega
         ·cases hargs
      have hg:=q2 (fun kid=>(cB f n kid 1).length) (fun kid s' h'' hc=>(IH kid s' h'' hc).2 1)
      rw[List.map_reverse,List.sum_reverse] at hg
      have hfn:=GU x.2.1
      have hcl : ∀ l:List Int,(cA (l.map fun k=>cB f n k 1)).length≤(l.map fun k=>(cB f n k 1).length).sum+l.length:=by
       intro l
       have:=Ab (l.map fun k=>cB f n k 1)
       rw[List.map_map,W1] at this
       exact this
      have hc0:=hcl x.2.2.2.2.2.1
      have ea : ∀ L,cB f (n+1) k L=ek x.2.1++40 :: (cA (x.2.2.2.2.2.1.map fun k=>cB f n k 1)++[41]):=fun L=>by rw[hfx,P4 c1,P4 c2,P4 c3,P4 c4,P4 c5]
      refine⟨fun L=>⟨?_,?_⟩,fun L => ?_⟩
      ·rw[hI,P4 b1,P4 b2,P4 b3,P4 b4,P4 b5,ea]
       exact Ac ⟨hkn.2.2.1,hkn.2.2.2⟩ hkn.2.1 (fun k hk=>(hK k hk).1) (by omega) _ [] rfl
      ·rw[hS,P4 b1,P4 b2,P4 b3,P4 b4,P4 b5,Ey hkn.2.2.1 hkn.2.2.2]
       simp only[P1]
       rw[show(⟨#[40]⟩:P0)=ba [40] from rfl,bm (by simp only[P3]; omega),ea]
       refine Ad hkn.2.1 (fun k hk=>(hK k hk).1) (fun pre ys hpy => ?_) hfn _ [] rfl
       have h1:=hcl pre
       have h2:(pre.map fun k=>(cB f n k 1).length).sum≤(x.2.2.2.2.2.1.map fun k=>(cB f n k 1).length).sum:=by
        rw[hpy,cd_,List.sum_append]
        omega
       have h3:=Q3 Q2 hpy
       rw[P6] at h3
       omega
      ·rw[ea]
       simp only[P6,Q1,S4]
       omega
     ·rw[P4 c6] at hok
      cases hok
    ·cases e
  ·cases e
theorem A5 (hl:f.length≤10000000) (hs : ∀ x∈f,x.2.2.1.2.2.1.size≤9223372036854775807) (hk : ∀ x∈f,x.2.2.2.2.2.1.length≤10000000) : ∃ t:ae,o5 f=some ((ba t,()),())∧oX f=some ((ba t,()),())∧t.length≤200:=by
 rw[zA,zo,nk hl hs hk,t7 hl hs hk]
 simp only[P1]
 cases ho:nI f with
 | false=>exact⟨[],rfl,rfl,by simp⟩
 | true =>
  simp only[S1,P9,R0]
  have ho':=ho
  unfold nI at ho'
  rw[P8] at ho'
  have hlen:=bK.1 ho'.1
  have ht:=ho'.2
  unfold rT at ht
  cases hc:dN f f.length ((f.length:Int) - 1) with
  | none=>rw[hc] at ht; cases ht
  | some p =>
   obtain⟨h1,h2⟩:=GV (by omega) f.length ((f.length:Int) - 1) p.1 p.2 hc
   rw[wr (by omega) (by omega),(h1 1).1,(h1 0).2,EK]
   simp only[P1,aJ]
   by_cases hb:(cB f f.length ((f.length:Int) - 1) 1).length > 200
   ·rw[ay (by omega)]
    exact⟨[],rfl,rfl,by simp⟩
   ·rw[aq (by omega)]
    exact⟨_,rfl,rfl,by omega⟩
end
def ig (d:ae):Bool:=d.all cR && decide (bh 0 d≤1000000000000000)
theorem Kv {d:ae} (hne:d≠[]) (h:d.length=1∨d.head? ≠ some 48):gl d=d.all cR:=by
 have hl:=ak_.2 hne
 unfold gl
 rw[R5 (show 1≤d.length by omega),bg_]
 rcases h with h | h
 ·rw[R5 h]; simp
 ·rw[S3 h]; simp
theorem Kw {d:ae} (hne:d≠[]) (h:d.length=1∨d.head? ≠ some 48):(cf d 16 && decide (bh 0 d≤1000000000000000))=ig d:=by
 unfold cf ig
 rw[Kv hne h]
 cases ha:d.all cR with
 | false=>simp
 | true =>
  simp only[T3]
  by_cases hv:bh 0 d≤1000000000000000
  ·have hd:=(GL d (by rw[Kv hne h]; exact ha)).1
   have:=It hv
   rw[hd] at this
   rw[R5 this]
   rfl
  ·rw[S3 hv,Bool.and_false]
theorem OV {d:ae} (h:cf d 16=true):bh 0 d < 10000000000000000:=by
 unfold cf gl at h
 simp only[P8,Q0] at h
 have:=wt d 0 h.1.1.1
 have h2:10 ^ d.length≤10 ^ 16:=Nat.pow_le_pow_right (by decide) h.2
 omega
theorem N9 (n:Int):bb (vN n)=ce n (-1000000000000000) 1000000000000000:=by
 unfold bb vN
 simp
def pG (b:Bool) (n:Nat):Int:=if b=true then -(n:Int) else n
theorem EL {b:Bool} {n:Nat}:bb (vN (pG b n))=decide (n≤1000000000000000):=by
 rw[N9]
 unfold pG ce
 rw[V3,Q0,Q0]
 cases b <;> simp <;> omega
theorem Kx {d:ae} {b:Bool}:((cq (ba d) 16).bind fun z4=>(if b=true then(if z4.1.2.1=true then((fa (1,(IntKind.i64.wrap (0 - z4.1.1)),(⟨#[]⟩:P0),())).bind fun z5=>(some (((1,(IntKind.i64.wrap (0 - z4.1.1)),(⟨#[]⟩:P0),()),z5.1.1,()),(())))) else(some (((1,(IntKind.i64.wrap (0 - z4.1.1)),(⟨#[]⟩:P0),()),false,()),(())))) else(if z4.1.2.1=true then((fa (1,z4.1.1,(⟨#[]⟩:P0),())).bind fun z6=>(some (((1,z4.1.1,(⟨#[]⟩:P0),()),z6.1.1,()),(())))) else(some (((1,z4.1.1,(⟨#[]⟩:P0),()),false,()),(()))))))
  = (some ((vN (pG b (if cf d 16=true then bh 0 d else 0)),(cf d 16 && decide (bh 0 d≤1000000000000000)),()),()):Option ((aD×Bool×Unit)×Unit)):=by
 have e:=vx d (m:=16) (by decide)
 have e:cq (ba d) 16=_:=e
 rw[e]
 simp only[P1]
 cases hr:cf d 16 with
 | false=>cases b <;> rfl
 | true =>
  have hlt:=OV hr
  simp only[S2,T3]
  cases b with
  | true =>
   simp only[S2]
   rw[wr (by omega) (by omega)]
   have ev:((1,0 - ((bh 0 d:Nat):Int),(⟨#[]⟩:P0),()):aD)=vN (pG true (bh 0 d)):=by
    unfold vN pG
    rw[P5 rfl,show(0:Int) - ((bh 0 d:Nat):Int) = -((bh 0 d:Nat):Int) by omega]
   rw[ev,jE (by show eS.size≤_; decide),EL]
   rfl
  | false =>
   simp only[P9,R0]
   have ev:((1,((bh 0 d:Nat):Int),(⟨#[]⟩:P0),()):aD)=vN (pG false (bh 0 d)):=rfl
   rw[ev,jE (by show eS.size≤_; decide),EL]
   rfl
theorem IK {b:Bool} : ∀(d:ae),d≠[]→d.length≤9223372036854775807 → ∃ v:aD,gh (ba d) b 0 0 (⟨#[]⟩:P0)=some ((v,ig d,()),())∧(ig d=true→v=vN (pG b (bh 0 d)))
 | [],h,_=>S0 rfl h
 | c :: l,h,hl=>by
  have gu:(c :: l:ae).length=1∨(c :: l:ae).head? ≠ some 48 → ∃ v:aD,(some ((vN (pG b (if cf (c :: l) 16=true then bh 0 (c :: l) else 0)),(cf (c :: l) 16 && decide (bh 0 (c :: l)≤1000000000000000)),()),()):Option ((aD×Bool×Unit)×Unit))=some ((v,ig (c :: l),()),())∧(ig (c :: l)=true→v=vN (pG b (bh 0 (c :: l)))):=by
   intro hc
   rw[Kw h hc]
   refine⟨_,rfl,fun ho => ?_⟩
   rw[←Kw h hc,P8] at ho
   rw[P5 ho.1]
  rw[zB,aJ]
  by_cases h1:1 < (c :: l:ae).length
  ·rw[ay (by omega),pA,AU c 48 (n:=48) rfl]
   by_cases h48:c=48
   ·subst h48
    rw[ay rfl,show(1:Int)=((1:Nat):Int) from rfl,eK (by simp)]
    simp only[U1,W3]
    have hne:l≠[]:=by
     rintro rfl
     simp at h1
    have hll:l.length≤9223372036854775807:=by rw[Q1] at hl; omega
    obtain⟨v,e1,e2⟩:=IK (b:=b) l hne hll
    have eo:ig (48 :: l)=ig l:=by
     unfold ig
     rfl
    rw[eo]
    exact⟨v,e1,e2⟩
   ·rw[aq h48,Kx]
    exact gu (.inr (by simpa using h48))
  ·rw[aq (by omega),Kx]
   exact gu (.inl (by simp only[Q1] at h1 ⊢; omega))
def Ky (w:ae):Bool:=decide (w.head? = some 45)
def f3 (w:ae):ae:=if w.head? = some 45 then w.drop 1 else w
def jV (w:ae):Bool:=decide (f3 w≠[]) && ig (f3 w)
def me (w:ae):Int:=pG (Ky w) (bh 0 (f3 w))
theorem EM {w:ae} (hw:w≠[]) (hl:w.length≤9223372036854775807) : ∃ v:aD,u4 (ba w)=some ((v,jV w,()),())∧(jV w=true→v=vN (me w)):=by
 cases w with
 | nil=>exact S0 rfl hw
 | cons c l =>
  rw[D0,aJ,ay (by simp),pA,AU c 45 (n:=45) rfl]
  by_cases hc:c=45
  ·subst hc
   have hm:f3 (45 :: l)=l:=rfl
   have hg:Ky (45 :: l)=true:=rfl
   have e0:(P2 (ba l) == P2 (⟨#[]⟩:P0))=decide (l=[]):=cY (b:=[])
   rw[ay rfl,show(1:Int)=((1:Nat):Int) from rfl,eK (by simp)]
   simp only[U1,W3]
   rw[e0]
   unfold jV me
   rw[hm,hg]
   by_cases hn:l=[]
   ·rw[ay hn]
    subst hn
    exact⟨_,rfl,fun h=>by cases h⟩
   ·rw[aq hn]
    obtain⟨v,e1,e2⟩:=IK (b:=true) l hn (by rw[Q1] at hl; omega)
    refine⟨v,?_,fun h => ?_⟩
    ·simpa[hn] using e1
    ·rw[P8] at h
     exact e2 h.2
  ·have hm:f3 (c :: l)=c :: l:=P4 (by simpa using hc)
   have hg:Ky (c :: l)=false:=S3 (by simpa using hc)
   have e0:(P2 (ba (c :: l)) == P2 (⟨#[]⟩:P0))=decide (c :: l=[]):=cY (b:=[])
   rw[aq hc,e0,aq (by simp)]
   unfold jV me
   rw[hm,hg]
   obtain⟨v,e1,e2⟩:=IK (b:=false) (c :: l) (by simp) hl
   refine⟨v,?_,fun h => ?_⟩
   ·simpa[hc] using e1
   ·rw[P8] at h
    exact e2 h.2
theorem Oa:(fun c=>([48,49,50,51,52,53,54,55,56,57]:ae).contains c)=cR:=funext fun c=>xQ (p:=fun c=>([48,49,50,51,52,53,54,55,56,57]:ae).contains c=cR c) (by decide +kernel) c
theorem tA {p:UInt8→Bool} : ∀ {l:ae} {x:UInt8} {t:ae},l.dropWhile p=x :: t→p x=false
 | c :: l,x,t,h=>by
  cases hc:p c with
  | true =>
   rw[ar_ hc] at h
   exact tA h
  | false =>
   rw[V9 (by rw[hc]; decide)] at h
   cases h
   exact hc
theorem iI {p:UInt8→Bool} : ∀ {l:ae},l.dropWhile p=[]↔l.all p=true
 | []=>by simp
 | c :: l=>by
  cases hc:p c with
  | true=>rw[ar_ hc,iI]; simp[hc]
  | false=>rw[V9 (by rw[hc]; decide)]; simp[hc]
theorem L2 (d:ae):(Lib.trimS d [48,49,50,51,52,53,54,55,56,57]=[])↔d.all cR=true:=by
 unfold Lib.trimS Lib.trimLeftS Lib.trimRightS
 rw[Oa,iI]
 constructor
 ·intro h
  cases hr:d.reverse.dropWhile cR with
  | nil =>
   rw[iI] at hr
   simpa using hr
  | cons x t =>
   have hx:=tA hr
   rw[hr] at h
   simp only[List.all_reverse,X5,P8] at h
   rw[hx] at h
   cases h.1
 ·intro h
  have:d.reverse.dropWhile cR=[]:=iI.2 (by simpa using h)
  rw[this]
  rfl
theorem EN {w:ae} (hl:w.length≤1000000):u9 (ba w)=some (((decide (f3 w≠[]) && (f3 w).all cR),()),()):=by
 have hp:iz (ba w) (⟨#[45]⟩:P0)=some ((ba (f3 w),()),()):=by
  rw[rH,nZ,show(⟨#[45]⟩:P0)=ba [45] from rfl,qI _ _ (by omega)]
  simp only[P1,xO]
  unfold f3
  by_cases h:w.head? = some 45
  ·obtain⟨t,rfl⟩:=gz h
   rw[ay h,P5 h,aJ,eK (by simp)]
   rfl
  ·rw[aq h,P4 h]
   rfl
 rw[D9,hp]
 simp only[P1]
 have e0 : ∀ x:ae,(P2 (ba x) == P2 (⟨#[]⟩:P0))=decide (x=[]):=fun x=>cY (b:=[])
 have hm:(f3 w).length≤w.length:=by
  unfold f3
  split <;> simp
 rw[e0]
 by_cases hn:f3 w=[]
 ·simp[hn]
 ·have ht:iA (ba (f3 w)) (⟨#[48,49,50,51,52,53,54,55,56,57]⟩:P0)=some ((ba (Lib.trimS (f3 w) [48,49,50,51,52,53,54,55,56,57]),()),()):=by
   rw[p6]
   show(if mJ (ba [48,49,50,51,52,53,54,55,56,57])=true∧(ba (f3 w)).size≤9223372036854775807 then some (((⟨(Lib.trimS (lb (ba (f3 w))) (lb (ba [48,49,50,51,52,53,54,55,56,57]))).toArray⟩:P0),()),()) else none)=_
   rw[P5 ⟨by decide +kernel,by rw[aJ]; omega⟩,dc,dc]
  rw[ht]
  simp only[P1,hn,V5,S8,S2,e0,ne_eq,not_false_eq_true,U5,T3]
  congr 3
  rw[V3,Q0]
  exact L2 _
theorem EO : ∀(l:ae) (a u:Nat),l.all cR=true→am_ 18446744073709551615 a l = .ok u→u=bh a l
 | [],a,u,_,h=>by
  cases h
  rfl
 | c :: l,a,u,h,hp=>by
  simp only[X5,P8] at h
  have hd:48≤c.toNat∧c.toNat≤57:=by simpa[cR] using h.1
  unfold am_ at hp
  rw[P5 hd] at hp
  split at hp
  ·cases hp
  ·split at hp
   ·cases hp
   ·exact EO l _ u h.2 hp
theorem B7 {w:ae} (hne:f3 w≠[]) (hd:(f3 w).all cR=true) (h:(bP w).2=true):(bP w).1=me w:=by
 unfold bP at h ⊢
 cases hp:Y1 64 w with
 | range=>rw[hp] at h; cases h
 | ok v =>
  simp only
  cases w with
  | nil=>exact S0 rfl hne
  | cons c l =>
   unfold Y1 at hp
   simp only at hp
   unfold me
   by_cases hc:c=45
   ·subst hc
    have hm:f3 (45 :: l)=l:=rfl
    have hg:Ky (45 :: l)=true:=rfl
    rw[hm] at hne hd
    have h45:(45:UInt8).toNat=45:=rfl
    rw[P5 (.inr h45)] at hp
    unfold br_ at hp
    rw[P4 hne] at hp
    cases hu:am_ (2 ^ 64 - 1) 0 l with
    | range=>rw[hu] at hp; cases hp
    | ok u =>
     rw[hu] at hp
     have:=EO l 0 u hd hu
     simp only at hp
     split at hp
     ·cases hp
     ·split at hp
      ·cases hp
      ·cases hp
       rw[hm,hg,this]
       rfl
    | _=>rw[hu] at hp; cases hp
   ·have hm:f3 (c :: l)=c :: l:=P4 (by simpa using hc)
    have hg:Ky (c :: l)=false:=S3 (by simpa using hc)
    rw[hm] at hd
    have hcd:48≤c.toNat∧c.toNat≤57:=by
     simp only[X5,P8] at hd
     simpa[cR] using hd.1
    rw[P4 (by omega)] at hp
    unfold br_ at hp
    rw[P4 (by simp)] at hp
    cases hu:am_ (2 ^ 64 - 1) 0 (c :: l) with
    | range=>rw[hu] at hp; cases hp
    | ok u =>
     rw[hu] at hp
     have:=EO (c :: l) 0 u hd hu
     simp only at hp
     split at hp
     ·cases hp
     ·split at hp
      ·cases hp
      ·rw[P4 (by omega)] at hp
       cases hp
       rw[hm,hg,this]
       rfl
    | _=>rw[hu] at hp; cases hp
 | _=>rw[hp] at h; cases h
theorem Gc {w:ae} (h:jV w=true):bP w=(me w,true):=by
 unfold jV ig at h
 simp only[P8,Q0] at h
 obtain⟨hne,hd,hv⟩:=h
 have hp2:(bP w).2=true:=by
  cases w with
  | nil=>exact S0 rfl hne
  | cons c l =>
   by_cases hc:c=45
   ·subst hc
    have hm:f3 (45 :: l)=l:=rfl
    rw[hm] at hne hd hv
    have h45:(45:UInt8).toNat=45:=rfl
    have hu:am_ (2 ^ 64 - 1) 0 l = .ok (bh 0 l):=CU l 0 hd (by omega)
    have:Y1 64 (45 :: l) = .ok (-((bh 0 l:Nat):Int)):=by
     unfold Y1
     simp only
     rw[P5 (.inr h45)]
     unfold br_
     rw[P4 hne,hu]
     simp only
     rw[P4 (by omega),P4 (by omega)]
     rfl
    unfold bP
    rw[this]
   ·have hm:f3 (c :: l)=c :: l:=P4 (by simpa using hc)
    rw[hm] at hd hv
    have hcd:48≤c.toNat∧c.toNat≤57:=by
     have hd':=hd
     simp only[X5,P8] at hd'
     simpa[cR] using hd'.1
    have hu:am_ (2 ^ 64 - 1) 0 (c :: l) = .ok (bh 0 (c :: l)):=CU (c :: l) 0 hd (by omega)
    have:Y1 64 (c :: l) = .ok ((bh 0 (c :: l):Nat):Int):=by
     unfold Y1
     simp only
     rw[P4 (by omega)]
     unfold br_
     rw[P4 (by simp),hu]
     simp only
     rw[P4 (by omega),P4 (by omega),P4 (by omega)]
    unfold bP
    rw[this]
 exact Prod.ext (B7 hne hd hp2) hp2
theorem Ob {w:ae} (h:jV w=false) (h1:(bP w).2=true) (h2:(decide (f3 w≠[]) && (f3 w).all cR)=true):bb (vN (bP w).1)=false:=by
 simp only[P8,Q0] at h2
 rw[B7 h2.1 h2.2 h1]
 unfold me
 rw[EL]
 unfold jV ig at h
 rw[R5 h2.1,h2.2] at h
 simpa using h
theorem IL {w:ae} (h:jV w=true) : -1000000000000000≤me w∧me w≤1000000000000000:=by
 unfold jV ig at h
 simp only[P8,Q0] at h
 unfold me pG
 split <;> omega
theorem tB {x:P0} (hx:x.size≤9223372036854775807) : ∃(t:ae) (b:Bool),s6 x=some ((ba t,b,()),())∧oY x=some ((ba t,b,()),())∧t.length≤200:=by
 obtain⟨w,rfl⟩ : ∃ s,x=ba s:=⟨lb x,(ic x).symm⟩
 rw[F3,FQ,qF hx,tj hx]
 simp only[P1]
 have e0 : ∀ x:ae,(P2 (ba x) == P2 (⟨#[]⟩:P0))=decide (x=[]):=fun x=>cY (b:=[])
 rw[e0]
 cases hp:(plain (ba w) && decide (((ba w).size:Int)≤200)) with
 | false =>
  have hw:w≠[]:=by
   rintro rfl
   exact S0 hp (by decide)
  rw[S3 hw]
  exact⟨[],false,rfl,rfl,by simp⟩
 | true =>
  have hp':=hp
  rw[P8,Q0,aJ] at hp'
  have hl:w.length≤200:=by omega
  simp only[S1,P9,R0]
  by_cases hw:w=[]
  ·subst hw
   exact⟨[],true,rfl,rfl,by simp⟩
  ·rw[aq hw,aq hw]
   have hcut:cn (ba w) (⟨#[61]⟩:P0)=_:=qf w [61] (by omega)
   rw[hcut]
   simp only[P1,xO]
   cases w with
   | nil=>exact S0 rfl hw
   | cons c l =>
    rw[pA,AU c 61 (n:=61) rfl]
    by_cases hc:c=61
    ·subst hc
     have hll:l.length≤200:=by rw[Q1] at hl; omega
     simp only[W9,U5,S2,P3,U1,W3]
     rw[show(1:Int)=((1:Nat):Int) from rfl,eK (by simp)]
     simp only[U1,W3]
     obtain⟨f,b,r1,r2,r3,r4⟩:=OU (x:=ba l) (by rw[aJ]; omega)
     rw[r1,r2]
     simp only[P1]
     have hsm:f.length≤10000000∧(∀ x∈f,x.2.2.1.2.2.1.size≤9223372036854775807) ∧ ∀ x∈f,x.2.2.2.2.2.1.length≤10000000:=by
      cases b with
      | false=>rw[r4 rfl]; simp
      | true =>
       have ho:=r3 rfl
       have hs:cN f=true:=by
        unfold cN
        rw[W6]
        intro y hy
        obtain⟨i,hi⟩:=bw_ hy
        exact(tn ho i y hi).1
       have ho':=ho
       unfold nI at ho'
       rw[P8] at ho'
       have:=bK.1 ho'.1
       exact⟨by omega,IE (tw hs),IG (tw hs)⟩
     obtain⟨t,t1,t2,t3⟩:=A5 hsm.1 hsm.2.1 hsm.2.2
     rw[t2,D8,t1]
     simp only[P1]
     rw[show(⟨#[61]⟩:P0)=ba [61] from rfl,bm (by simp only[P3]; omega),e0,aJ]
     cases b with
     | false =>
      simp only[S8,S2]
      refine⟨[],false,?_,rfl,by simp⟩
      by_cases ht:t=[] <;> simp[ht]
     | true =>
      simp only[S1,P9,R0]
      by_cases ht:t=[]
      ·refine⟨[],false,?_,?_,by simp⟩ <;> simp[ht]
      ·rw[wr (by omega) (by omega)]
       by_cases h2:t.length < 200
       ·refine⟨61 :: t,true,?_,?_,by rw[Q1]; omega⟩
        ·rw[S3 ht,R5 (show(t.length:Int) < 200 by omega)]
         rfl
        ·rw[aq ht,aq (by omega),bm (by simp only[P3]; omega)]
         rfl
       ·refine⟨[],false,?_,?_,by simp⟩
        ·rw[S3 ht,S3 (show ¬(t.length:Int) < 200 by omega)]
         rfl
        ·rw[aq ht,ay (by omega)]
    ·have hnc : ¬(some c=some (61:UInt8)):=by simpa using hc
     simp only[W9,hnc,V5,P9,R0,hc]
     generalize hwd:(c :: l:ae)=w at *
     have hsz:(ba w).size=w.length:=aJ w
     rw[qK (by omega)]
     obtain⟨v,n1,n2⟩:=EM hw (by omega)
     rw[n1,EN (by omega),nq (by omega),ua (by omega)]
     simp only[P1,zD]
     rw[qG (by show eS.size≤_; decide)]
     simp only[P1]
     have tail : ∃(t:ae) (b:Bool),(if(bH w).2=true then(some ((ba w,true,()),(())):Option ((P0×Bool×Unit)×Unit)) else(if((Q8 (ba w):Int) == 200)=true then(some (((⟨#[]⟩:P0),false,()),(()))) else(cats (⟨#[39]⟩:P0) (ba w) fun y2=>(some ((y2,true,()),(()))))))=some ((ba t,b,()),())
       ∧ (if(!(bH w).2)=true then((fH (2,0,ba w,())).bind fun z7=>(if(decide ((Q8 z7.1.1:Int) > 200))=true then(some (((⟨#[]⟩:P0),false,()),(()))) else(some ((z7.1.1,true,()),(()))))) else((fH (bH w).1).bind fun z8=>(if(decide ((Q8 z8.1.1:Int) > 200))=true then(some (((⟨#[]⟩:P0),false,()),(()))) else(some ((z8.1.1,true,()),(()))))))=some ((ba t,b,()),())∧t.length≤200:=by
      cases hr:(bH w).2 with
      | true =>
       obtain⟨k1,k2⟩:=pE hr
       refine⟨w,true,rfl,?_,hl⟩
       simp only[S1,P9,R0]
       rw[jR (qc k1),P5 k1,k2]
       simp only[P1]
       rw[aq (by rw[hsz]; omega)]
      | false =>
       simp only[S8,P9,R0,S2]
       have hov:bb (2,0,ba w,())=true:=by
        unfold bb
        rw[P5 rfl]
        simp only[U5,T3]
        exact hp
       have htx:dh (2,0,ba w,())=ba (39 :: w):=by
        show(⟨#[39]⟩:P0)++ba w=_
        rw[show(⟨#[39]⟩:P0)=ba [39] from rfl,mX]
        rfl
       rw[jR (qc hov),P5 hov,htx,Im (by omega),show(⟨#[39]⟩:P0)=ba [39] from rfl,mX]
       simp only[P1,aJ,Q1]
       by_cases h2:w.length=200
       ·rw[P5 (by simp[h2]),ay (by omega)]
        exact⟨[],false,rfl,rfl,by simp⟩
       ·rw[P4 (by simp only[beq_iff_eq]; omega),aq (by omega)]
        exact⟨39 :: w,true,rfl,rfl,by rw[Q1]; omega⟩
     cases ho:jV w with
     | true =>
      have hpv:=Gc ho
      have hrg:=IL ho
      have hdg:(decide (f3 w≠[]) && (f3 w).all cR)=true:=by
       unfold jV ig at ho
       simp only[P8] at ho ⊢
       exact⟨ho.1,ho.2.1⟩
      have hok:bb (vN (me w))=true:=by
       rw[N9]
       exact bK.2 hrg
      have hit:=tk (n:=me w) (by omega) (by omega)
      rw[n2 ho,hpv,hdg]
      simp only[S2,hok]
      rw[qH (by omega) (by omega),jR (qc hok),P5 hok]
      refine⟨lb (fm (me w)),true,?_,?_,by rw[wq]; omega⟩
      ·rw[ic]; rfl
      ·rw[ic]; rfl
     | false =>
      obtain⟨t,b,s1,s2,s3⟩:=tail
      refine⟨t,b,?_,?_,s3⟩
      ·cases h1:(bP w).2 with
       | false=>simpa using s1
       | true =>
        cases h2:(decide (f3 w≠[]) && (f3 w).all cR) with
        | false=>simpa using s1
        | true =>
         rw[Ob ho h1 h2]
         simpa using s1
      ·simpa using s2
noncomputable def ft (x:P0):P0×Bool:=if h:x.size≤9223372036854775807 then(ba (tB h).choose,(tB h).choose_spec.choose) else(eS,false)
theorem Ae {x:P0} (h:x.size≤9223372036854775807):s6 x=some (((ft x).1,(ft x).2,()),())∧oY x=some (((ft x).1,(ft x).2,()),())∧(ft x).1.size≤200:=by
 have hs:=(tB h).choose_spec.choose_spec
 unfold ft
 rw[dif_pos h]
 exact⟨hs.1,hs.2.1,by rw[aJ]; exact hs.2.2⟩
noncomputable def ii (x:P0):Bool:=(ft x).2 && !decide (x=eS) && decide ((ft x).1=x)
theorem vF {x:P0} (h:x.size≤9223372036854775807):p3 x=some ((ii x,()),()):=by
 rw[Ea,(Ae h).1]
 simp only[P1,kw]
 unfold ii
 cases (ft x).2 <;> by_cases hx:x=eS <;> simp[hx]
def bi (a b:aw):Bool:=decide (a.2.1 < b.2.1) || (decide (a.2.1=b.2.1) && decide (a.1 < b.1))
theorem qO (a b:aw):fX a b=some ((bi a b,()),()):=by
 rw[FR]
 unfold bi
 by_cases h1:a.2.1 < b.2.1
 ·simp[h1]
 ·by_cases h2:a.2.1=b.2.1 <;> simp[h1,h2]
theorem Af (a b:aw) : ∃ k:Int,o0 a b=some ((k,()),())∧(k < 0↔bi a b=true):=by
 rw[zr,BQ,BQ]
 simp only[P1]
 rw[LI (by simp)]
 refine⟨_,rfl,?_⟩
 unfold bi
 by_cases h1:a.2.1 < b.2.1
 ·simp[xM,h1]
 ·by_cases h2:b.2.1 < a.2.1
  ·have h3 : ¬a.2.1=b.2.1:=by omega
   simp[xM,h1,h2,h3]
  ·have h3:a.2.1=b.2.1:=by omega
   by_cases h4:a.1 < b.1
   ·simp[xM,h1,h2,h3,h4]
   ·by_cases h5:b.1 < a.1
    ·simp[xM,h1,h2,h3,h4,h5]
    ·simp[xM,h1,h2,h3,h4,h5]
noncomputable def vG:Option af→List af→Bool
 | _,[]=>true
 | o,c :: l=>bQ c.1 && ii c.2.1 && (match o with | none=>true | some p=>bi p.1 c.1) && vG (some c) l
noncomputable def bd (s:List af):Bool:=vG none s && decide (s.length≤120)
section
variable {s:List af} (hs : ∀ c∈s,c.2.1.size≤9223372036854775807) (hl:s.length≤1000000000)
include hs hl
theorem ud : ∀(ys pre:List af),s=pre++ys→jC s s (s.length:Int) (pre.length:Int)=some ((vG pre.getLast? ys && decide (s.length≤120),()),())
 | [],pre,h=>by
  rw[rQ,aq (bV h)]
  simp only[vG,T3]
  congr 3
  rw[V3,Q0,Q0]
  omega
 | y :: ys,pre,h=>by
  have hy:=hs y (by rw[h]; simp)
  have ih:=ud ys (pre++[y]) (aI h)
  rw[bx_] at ih
  simp only[bc_,Option.or_some,Option.some_or] at ih
  rw[rQ,ay (bo h),bk h,qb]
  simp only[P1,vG]
  cases hr:bQ y.1 with
  | false=>simp
  | true =>
   simp only[S1,P9,R0,T3]
   rcases bp_ pre with hp | ⟨q,z,hp⟩
   ·subst hp
    rw[aq (by simp),vF hy]
    simp only[P1,List.getLast?_nil,bg_]
    cases ii y.2.1 with
    | false=>simp
    | true =>
     simp only[S1,P9,R0,T3]
     rw[aH (pre:=[]) h (by omega)]
     exact ih
   ·rw[bq_] at hp
    subst hp
    have hz:s=q++z :: (y :: ys):=by rw[h]; simp
    have hql:((q++[z]).length:Int) - 1=(q.length:Int):=by simp
    have hqs:q.length < s.length:=by rw[hz]; simp
    rw[ay (by simp),hql,wr (by omega) (by omega),bk hz]
    obtain⟨k,k1,k2⟩:=Af z.1 y.1
    rw[k1]
    simp only[P1,bx_,bc_,Option.some_or]
    by_cases hk:k < 0
    ·rw[aq (by omega),vF hy,k2.1 hk]
     simp only[P1,bg_]
     cases ii y.2.1 with
     | false=>simp
     | true =>
      simp only[S1,P9,R0,T3]
      rw[aH h (by omega)]
      exact ih
    ·have:bi z.1 y.1=false:=by
      rw[Bool.eq_false_iff]
      exact fun e=>hk (k2.2 e)
     rw[ay (by omega),this]
     simp
theorem xg:s7 s=some ((bd s,()),()):=by
 rw[F4]
 exact ud hs hl s [] rfl
end
theorem IM {x:P0}:ii x=((ft x).2 && !decide (x=eS) && decide ((ft x).1=x)):=rfl
section
variable {s:List af} (hs : ∀ c∈s,c.2.1.size≤9223372036854775807) (hl:s.length≤1000000000000)
include hs hl
theorem ue : ∀(ys pre:List af),s=pre++ys→jB s (pre.length:Int)=some ((vG pre.getLast? ys,()),())
 | [],pre,h=>by
  rw[rM,aq (bV h)]
  simp only[vG]
 | y :: ys,pre,h=>by
  have hy:=hs y (by rw[h]; simp)
  have ih:=ue ys (pre++[y]) (aI h)
  rw[bx_] at ih
  simp only[bc_,Option.or_some,Option.some_or] at ih
  rw[rM,ay (bo h),bk h,(Ae hy).2.1]
  simp only[P1]
  rw[bk h,kE]
  simp only[P1,vG,bk h,kw,IM]
  cases hr:bQ y.1 with
  | false=>simp
  | true =>
   cases hi:(ft y.2.1).2 with
   | false=>simp
   | true =>
    by_cases he:y.2.1=eS
    ·simp[he]
    ·by_cases hq:(ft y.2.1).1=y.2.1
     ·rcases bp_ pre with hp | ⟨q,z,hp⟩
      ·subst hp
       rw[aH (pre:=[]) h (by omega)]
       simp[he,hq]
       exact ih
      ·rw[bq_] at hp
       subst hp
       have hz:s=q++z :: (y :: ys):=by rw[h]; simp
       have hql:((q++[z]).length:Int) - 1=(q.length:Int):=by simp
       have hqs:q.length < s.length:=by rw[hz]; simp
       rw[hql,wr (by omega) (by omega),bk hz,qO,aH h (by omega)]
       simp only[P1,bx_,bc_,Option.some_or]
       rw[ih]
       cases ha:bi z.1 y.1 <;> simp[he,hq]
     ·simp[he,hq]
theorem d7:fb s=some ((bd s,()),()):=by
 rw[FS]
 by_cases h:s.length≤120
 ·rw[aq (by simp; omega)]
  have:=ue hs hl s [] rfl
  simp only[S4,Int.ofNat_zero,List.getLast?_nil] at this
  rw[this]
  simp[bd,h]
 ·rw[ay (by simp; omega)]
  simp[bd,h]
end
theorem xY {a b:aw}:(bO cD a b=true)=(a=b):=propext (od rfl)
noncomputable def aC (r:aw):List af→P0
 | []=>eS
 | c :: cs=>if c.1=r then c.2.1 else aC r cs
theorem Ag {s:List af} {r:aw} (hl:s.length≤1000000000000) : ∀(ys pre:List af),s=pre++ys→s8 s (pre.length:Int) r.1 r.2.1=some ((aC r ys,()),())
 | [],pre,h=>by
  rw[w7,aq (bV h)]
  rfl
 | y :: ys,pre,h=>by
  have ih:=Ag (r:=r) hl ys (pre++[y]) (aI h)
  rw[w7,ay (bo h),bk h,aH h (by omega),ih]
  show(if bO cD y.1 r=true then _ else _)=_
  by_cases e:y.1=r
  ·rw[P5 (by rw[xY]; exact e),bk h,aC,P5 e]
  ·rw[P4 (by rw[xY]; exact e),aC,P4 e]
theorem L3 {s:List af} {r:aw} (hl:s.length≤1000000000000):HA s r=some ((aC r s,()),()):=by
 rw[LG]
 exact Ag hl s [] rfl
end Go.Proofs.YtfffplonjaigkaaGreatDoor.Abs
