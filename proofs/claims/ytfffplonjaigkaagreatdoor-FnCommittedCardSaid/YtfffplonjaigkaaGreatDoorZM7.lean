/- Plain laws: both readers side by side: the arguments of a function. -/
import Derived.Test.YtfffplonjaigkaaGreatDoorZM6
import Derived.Lib.SplitLaws
set_option linter.unusedVariables false
set_option linter.unusedSimpArgs false
set_option linter.unusedSectionVars false
open Bool renaming and_eq_true→S8,and_true→cy_,eq_iff_iff→Y7,false_eq_true→S9,false_or→cf_,not_false→W0,not_true→V6,true_and→W6
open ByteArray renaming size→U1,toList→S2
open Go.Lib renaming parseIntB→as_,parseUintB→dj_,parseUintM→bw_
open List renaming all_append→bi_,all_cons→an_,all_eq_true→Z2,append_nil→W9,concat_eq_append→di_,cons_append→be_,dropWhile_cons_of_neg→Z4,dropWhile_cons_of_pos→ci_,drop_succ_cons→X5,drop_zero→Z7,eq_nil_or_concat→cd_,getD_eq_getElem?_getD→V9,getElem?_of_mem→do_,getLast?_append→dp_,getLast?_singleton→cw_,head?_cons→ah_,length_append→S5,length_cons→T3,length_map→X6,length_nil→V3,length_pos_iff→bs_,length_singleton→S3,length→T5,map_append→bq_,map_cons→Y4,mem_cons→U7,nil_append→ag_
open Option renaming bind_some→S1
open Option.some renaming injEq→U3
open Prod.mk renaming injEq→cx_
open _root_ renaming ByteArray→S0,absurd→V2,congrArg→T4,decide_eq_false→U9,decide_eq_true_eq→T0,decide_eq_true→U2,decide_false→Z0,decide_true→Y2,if_false→U6,if_neg→S4,if_pos→S6,if_true→V4
namespace Go.Proofs.YtfffplonjaigkaaGreatDoor.Abs
open Go
theorem na {s m m':af} {L L':Int} {F:RI} {G:RS} {K:(Int×Unit)×(mR×Unit)→RI} {K':(Int×Unit)×(iU×Unit)→RS} (h:kC s m L F G)
  (hg : ∀(i:Int) (l1 l2:af) (ns:List ab),bl l1=bl l2→l1 <:+ m→l2 <:+ m→cX ns=true→ns.length≤60→(ew (bl l1)=0∨cT (ew (bl l1)) < L)→kC s m' L' (K ((i,()),((ba l1,ns,false,()),()))) (K' ((i,()),((ba s,bF s l2,false,ns,()),()))))
  (hd : ∀(i:Int) (l1:af) (b1:Bool) (ns1:List ab) (j:Int) (l2:af) (ns2:List ab),Dm b1 ns1→l1 <:+ m→ns1.length≤60→l2 <:+ s→ns2.length≤61+m.length→kC s m' L' (K ((i,()),((ba l1,ns1,b1,()),()))) (K' ((j,()),((ba s,bF s l2,true,ns2,()),())))) :
  kC s m' L' (F.bind K) (G.bind K'):=by
 rcases h with⟨i,l1,l2,ns,rfl,rfl,h1,h2,h3,h4,h5,h6⟩ | ⟨i,l1,b1,ns1,j,l2,ns2,rfl,h1,h2,h3,rfl,h4,h5⟩
 ·exact hg i l1 l2 ns h1 h2 h3 h4 h5 h6
 ·exact hd i l1 b1 ns1 j l2 ns2 h1 h2 h3 h4 h5
theorem gz {s m:af} {L:Int} {F:RI} {G:RS} {l1:af} {b1:Bool} {ns1:List ab} {j:Int} {l2:af} {ns2:List ab} (hF:fe l1 b1 ns1 F) (hd:Dm b1 ns1) (h1:l1 <:+ m) (hG:G=some ((j,()),((ba s,bF s l2,true,ns2,()),()))) (h2:l2 <:+ s) (h3:ns2.length≤61+m.length):kC s m L F G:=by
 obtain⟨i,l',b',ns',e,k1,k2,k3⟩:=hF.dm hd
 exact .inr ⟨i,l',b',ns',j,l2,ns2,e,k2,ae k1 h1,k3,hG,h2,h3⟩
def M3 (s:af) (n:Nat):Prop := ∀(l l0:af),bl l=bl l0→l <:+ s→l0 <:+ s→(bl l).length < n → ∀(L deep:Int) (ns:List ab),1≤L→L≤5→0≤deep→deep+((bl l).length:Int)≤200→cX ns=true→ns.length≤60 →
 kC s (bl l) L (bD L deep (ba l) false ns) (dI L (ba s) (bF s l0) false ns)
theorem iy {c:UInt8} {l:af}:([c]:af).isPrefixOf l=decide (l.head? = some c):=Aa c l
theorem OI {s:af} (hs:s.length≤200) {n:Nat} (HB:M3 s n) : ∀(k:Nat) (l1 l2:af),(bl l1).length=k→bl l1=bl l2→l1 <:+ s→l2 <:+ s→(bl l1).length < n → ∀(op deep:Int) (kids:List Int) (ns:List ab),0≤deep→deep+1+((bl l1).length:Int)≤200→kids.length+(bl l1).length≤1000→cX ns=true→ns.length≤60 →
  kC s (bl l1) 5 (cg op deep (ba l1) false kids ns) (cA op (ba s) (bF s l2) false kids ns):=by
 intro k
 induction k using Nat.strongRecOn with
 | ind k ih =>
  intro l1 l2 hk hb hs1 hs2 hn op deep kids ns hd0 hd hkl ho hns
  subst hk
  have hl1:=aG hs1
  have hm1:=aG (av l1)
  have hms:bl l1 <:+ s:=ae (av l1) hs1
  rw[IG (by omega),II,PX (by omega) hs2,←hb]
  have doom : ∀(y:List Int) (x1:af) (b1:Bool) (ns1:List ab) (x2:af) (ns2:List ab),y.length=kids.length+1→Dm b1 ns1→x1 <:+ bl l1→ns1.length≤60→x2 <:+ s→ns2.length≤61+(bl l1).length →
    kC s (bl l1) 5 (vo op deep y (ba x1) b1 ns1) (yw op y (ba s) (bF s x2) true ns2):=by
   intro y x1 b1 ns1 x2 ns2 hy hdm hx1 hn1 hx2 hn2
   have hlx:=aG hx1
   obtain⟨l',h1,h2⟩:=rL (op:=op) (y:=y) (ns:=ns2) (by omega) hx2
   exact gz (vp hd0 (by omega) (by omega) hn1) hdm hx1 h2 h1 hn2
  have good : ∀(y:List Int) (x1 x2:af) (ns:List ab),y.length=kids.length+1→bl x1=bl x2→x1 <:+ bl l1→x2 <:+ bl l1→cX ns=true→ns.length≤60 →
    kC s (bl l1) 5 (vo op deep y (ba x1) false ns) (yw op y (ba s) (bF s x2) false ns):=by
   intro y x1 x2 ns hy hbx hx1 hx2 ho hn
   have hlx:=aG hx1
   have hblx:=aG (av x1)
   have hx2s:=ae hx2 hms
   have c41 : ¬(41:UInt8)=44:=by decide
   have c44 : ¬(44:UInt8)=41:=by decide
   unfold vo yw
   rw[show(⟨#[44]⟩:S0)=ba [44] from rfl,show(⟨#[41]⟩:S0)=ba [41] from rfl,dl (by omega),fO (by omega) (by decide) hx2s]
   simp only[S1,kA (c:=44) (.inr (.inr (.inr (.inl rfl)))),gp,fd,S3,W0,W6,iy,←hbx]
   by_cases h44:(bl x1).head? = some 44
   ·have h41 : ¬(bl x1).head? = some 41:=by rw[h44]; simp
    simp only[h44,h41,Y2,Z0,V6,S9,U6,V4,U3,c44]
    rw[fO (by omega) (by decide) (ae (av x1) (ae hx1 hms))]
    simp only[S1,W0,W6,iy,cW,h44,Y2,V4,V6,S9,U6,S3]
    have hlt:=lg h44
    have hb2:=aG (av ((bl x1).drop 1))
    have hsx:(bl x1).drop 1 <:+ bl l1:=ae (fw x1) hx1
    exact(ih _ (by omega) _ _ rfl rfl (ae hsx hms) (ae hsx hms) (by omega) op deep y ns hd0 (by omega) (by omega) ho hn).mono (ae (av _) hsx)
   ·simp only[h44,Z0,W0,V4,U6,S9]
    rw[dl (by omega)]
    simp only[S1,kA (c:=41) (.inr (.inr (.inl rfl))),cW,S3]
    by_cases h41:(bl x1).head? = some 41
    ·simp only[h41,Y2,V4,V6]
     have hsx:(bl x1).drop 1 <:+ bl l1:=ae (fw x1) hx1
     exact m9 (B7 (by omega)) rfl hsx hsx hms ho hn
    ·simp only[h41,Z0,U6,W0,S9]
     rw[fO (by omega) (by decide) (ae (av x1) (ae hx1 hms))]
     simp only[S1,W0,W6,iy,cW,h44,Z0,V4,S9,U6]
     have hsx:bl x1 <:+ bl l1:=ae (av x1) hx1
     exact gz (dM hn (B7 (by omega))) (B8 ho) hsx Ei (ae hsx hms) (by omega)
  by_cases ha:Ef (bl l1)=true
  ·rw[S6 ha,S6 ha]
   have hX:(ia (bl l1)).dropWhile bg <:+ bl l1:=by
    have:=C3 (bl l1)
    rw[cW] at this
    exact this
   cases h2:(cn ((ia (bl l1)).takeWhile bg)).2 with
   | true =>
    simp only[V6,V4]
    refine na (m9 (m:=bl l1) rfl rfl hX hX hms ho hns) ?_ ?_
    ·intro i x1 x2 ns' e1 e2 e3 e4 e5 _
     simp only
     rw[bA (by simp only[S3]; omega),bA (by simp only[S3]; omega)]
     exact good _ _ _ _ (by simp) e1 e2 e3 e4 e5
    ·intro i x1 b1 ns1 j x2 ns2 e1 e2 e3 e4 e5
     simp only
     rw[bA (by simp only[S3]; omega),bA (by simp only[S3]; omega)]
     have:kids++[i]=kids++[i]:=rfl
     by_cases hij:i=j
     ·subst hij
      exact doom _ _ _ _ _ _ (by simp) e1 e2 e3 e4 e5
     ·obtain⟨l',h1,h2⟩:=rL (op:=op) (y:=kids++[j]) (ns:=ns2) (by omega) e4
      have hlx:=aG e2
      exact gz (vp hd0 (by omega) (by simp only[S5,S3]; omega) e3) e1 e2 h2 h1 e5
   | false =>
    simp only[W0,S9,U6]
    obtain⟨i,h3,_⟩:=yt (x:=nA (cn ((bl l1).takeWhile bg)).1 (cn ((ia (bl l1)).takeWhile bg)).1) (l:=(ia (bl l1)).dropWhile bg) (b:=true) hns
    rw[h3]
    simp only[S1,Bool.true_eq_false,false_and,U6,Bool.true_or]
    rw[bA (by simp only[S3]; omega),bA (by simp only[S3]; omega)]
    obtain⟨l',h1,h2⟩:=rL (op:=op) (y:=kids++[0]) (ns:=ns) (by omega) (ae hX hms)
    have hlx:=aG hX
    exact gz (vp hd0 (by omega) (by simp only[S5,S3]; omega) hns) (B8 ho) hX h2 h1 (by omega)
  ·rw[S4 ha,S4 ha,wr (by omega) (by omega)]
   refine na (HB l1 (bl l1) (cW l1).symm hs1 hms hn 1 (deep+1) ns (by decide) (by decide) (by omega) (by omega) ho hns) ?_ ?_
   ·intro i x1 x2 ns' e1 e2 e3 e4 e5 _
    simp only
    rw[bA (by simp only[S3]; omega),bA (by simp only[S3]; omega)]
    exact good _ _ _ _ (by simp) e1 e2 e3 e4 e5
   ·intro i x1 b1 ns1 j x2 ns2 e1 e2 e3 e4 e5
    simp only
    rw[bA (by simp only[S3]; omega),bA (by simp only[S3]; omega)]
    obtain⟨l',h1,h2⟩:=rL (op:=op) (y:=kids++[j]) (ns:=ns2) (by omega) e4
    have hlx:=aG e2
    exact gz (vp hd0 (by omega) (by simp only[S5,S3]; omega) e3) e1 e2 h2 h1 e5
theorem Ej {p:UInt8→Bool} {c:UInt8} : ∀ {l:af},c∈l.takeWhile p→p c=true
 | [],h=>by simp at h
 | x :: l,h=>by
  cases hx:p x with
  | true =>
   rw[List.takeWhile_cons_of_pos hx] at h
   rcases U7.1 h with rfl | h
   ·exact hx
   ·exact Ej h
  | false =>
   rw[List.takeWhile_cons_of_neg (by rw[hx]; decide)] at h
   cases h
theorem OJ {w:af} (hw : ∀ c∈w,bg c=true) (h:(bP w).2=true):(w≠[])↔((bP w).1.1=1∨(bP w).1.1=3):=by
 constructor
 ·intro hne
  obtain⟨k1,k2⟩:=qS h
  rcases su k1 with e | ⟨n,e,_⟩ | ⟨t,e⟩ | ⟨b,e⟩ | ⟨n,e,h0⟩
  ·rw[e] at k2
   exact V2 (BU (b:=[]) k2.symm) hne
  ·rw[e]; exact .inl rfl
  ·rw[e] at k2
   exfalso
   have e2:w=39 :: lb t:=by
    have:ba w=ba (39 :: lb t):=by
     rw[←k2]
     show(⟨#[39]⟩:S0)++t=_
     rw[←jc t,show(⟨#[39]⟩:S0)=ba [39] from rfl,og,dq]
     rfl
    exact BU this
   exact V2 (hw 39 (by rw[e2]; simp)) (by decide)
  ·rw[e]; exact .inr rfl
  ·rw[e] at k2
   exfalso
   have f : ∀ n:Fin 6,1≤n.val→c8 (n.val:Int)=ba (35 :: lC (n.val:Int)):=by decide +kernel
   have e2:w=35 :: lC (n.val:Int):=by
    have:ba w=ba (35 :: lC (n.val:Int)):=by
     rw[←k2]
     exact f n h0
    exact BU this
   exact V2 (hw 35 (by rw[e2]; simp)) (by decide)
 ·rintro hk rfl
  have:(bP []).1.1=0:=rfl
  omega
theorem Pn {s:S0} {a:Int} {ns:List ab}:dI 5 s a false ns=rr s a false ns:=by
 rw[xo]
 simp only[S9,U6,fd]
 rfl
abbrev OK (k:Int):ab:=(4,0,(0,0,(⟨#[]⟩:S0),()),((0,0,()),false,false,()),((0,0,()),false,false,()),([k]:(List Int)),())
theorem M4:U1 ⟨#[]⟩≤9223372036854775807:=by decide
theorem nc {s m:af} {L i j:Int} {l1 l2:af} {b:Bool} {ns1 ns2:List ab} (hd:Dm b ns1) (h1:l1 <:+ m) (h2:ns1.length≤60) (h3:l2 <:+ s) (h4:ns2.length≤61+m.length):kC s m L (some ((i,()),((ba l1,ns1,b,()),()))) (some ((j,()),((ba s,bF s l2,true,ns2,()),()))) :=
 .inr ⟨i,l1,b,ns1,j,l2,ns2,rfl,hd,h1,h2,rfl,h3,h4⟩
theorem OL {s:af} (hs:s.length≤200) {n:Nat} (HB:M3 s n) {m:af} (hbm:bl m=m) (hms:m <:+ s) (hmn:m.length≤n) {deep:Int} {ns:List ab} (hd0:0≤deep) (hd:deep+(m.length:Int)≤200) (ho:cX ns=true) (hn:ns.length≤60) :
  kC s m 5 (fP deep (m.takeWhile bg) (m.dropWhile bg) false ns) ((jU (ba s) (bF s m) false ns).bind fun z10=>(dV z10.1.1 1 z10.2.1.1 z10.2.1.2.1 z10.2.1.2.2.1 z10.2.1.2.2.2.1)):=by
 have hml:=aG hms
 have hwl:=jB bg m
 have hrm:m.dropWhile bg <:+ m:=List.dropWhile_suffix _
 have hrs:=ae hrm hms
 have hrl:=aG hrm
 rw[Ah (by omega) hms]
 simp only[S1]
 obtain⟨l',hl',e⟩:=GV (w:=m.takeWhile bg) (s:=s) (ns:=ns) (by omega) (by omega) kB [] (m.dropWhile bg) rfl hrs
 have e:dV (ba (m.takeWhile bg)) 1 (ba s) (bF s (m.dropWhile bg)) false ns=_:=e
 rw[e]
 have hl's:l' <:+ m:=by
  rcases hl' with rfl | rfl
  ·exact hrm
  ·exact ae (av _) hrm
 have hlb:bl l'=bl (m.dropWhile bg):=by
  rcases hl' with rfl | rfl
  ·rfl
  ·exact cW _
 cases hf:kB.find? (fun k=>decide (eM k=m.takeWhile bg)) with
 | some k =>
  obtain⟨k',hk',hkw,hkm,hne⟩:=Jm (w:=m.takeWhile bg) (by rw[hf]; simp)
  rw[hf] at hk'
  cases hk'
  have hno : ∀ k∈kB,(bP (eM k)).2=false∧(cn (eM k)).2=false:=by decide +kernel
  obtain⟨v1,v2⟩:=hno k hkm
  rw[hkw] at v1 v2
  have hlt:=Jn (l:=m) (by rw[hbm]; exact hne)
  rw[hbm] at hlt
  have ei:fP deep (m.takeWhile bg) (m.dropWhile bg) false ns=fL k deep (ba (m.dropWhile bg)) false ns:=by
   unfold fP
   rw[S4 (by rw[v1]; simp),S4 (by rw[v2]; simp),hf]
  rw[ei,rx,S4 (by decide),show(⟨#[40]⟩:S0)=ba [40] from rfl,dl (by omega)]
  simp only[S1,kA (c:=40) (.inr (.inl rfl)),iy,S3]
  by_cases h40:(bl (m.dropWhile bg)).head? = some 40
  ·simp only[h40,Y2,cy_,hf,V4,V6]
   have hdl:=lg h40
   have hds:(bl (m.dropWhile bg)).drop 1 <:+ m:=ae (fw _) hrm
   have hb2:=aG (av ((bl (m.dropWhile bg)).drop 1))
   rw[EN,Ld]
   exact(OI hs HB _ _ _ rfl rfl (ae hds hms) (ae hds hms) (by omega) k deep [] ns hd0 (by omega) (by simp only[V3]; omega) ho hn).mono (ae (av _) hds)
  ·simp only[h40,Z0,Bool.and_false,U6,W0]
   have e0:kB.find? (fun _=>false)=none:=rfl
   rw[e0]
   simp only
   have es:m8 (m.takeWhile bg) s (bF s l') false ns=some ((0,()),((ba s,bF s l',true,ns,()),())):=by
    unfold m8
    rw[S4 (by rw[v1]; simp),S4 (by rw[v2]; simp)]
   rw[es,i7]
   simp only[V6,S9,U6,gp]
   exact gz (dM hn (B7 (by simp))) (B8 ho) (ae (av _) hrm) rfl (ae hl's hms) (by omega)
 | none =>
  have e0:kB.find? (fun k=>decide (eM k=m.takeWhile bg) && ([40]:af).isPrefixOf (bl (m.dropWhile bg)))=none:=by
   rw[List.find?_eq_none] at hf ⊢
   intro k hk
   have:=hf k hk
   simp only[T0] at this
   simp[this]
  rw[e0]
  simp only
  unfold m8 fP
  rw[hf]
  have hv:=fun h=>OJ (w:=m.takeWhile bg) (fun c hc=>Ej hc) h
  by_cases hc:(bP (m.takeWhile bg)).2=true∧m.takeWhile bg≠[]
  ·rw[S6 hc,S6 ⟨hc.1,(hv hc.1).1 hc.2⟩,lD]
   exact m9 (Jl (Nat.le_trans (gl (qS hc.1).1) (by decide))) hlb.symm hrm hl's hms ho hn
  ·rw[S4 hc,S4 (fun h=>hc ⟨h.1,(hv h.1).2 h.2⟩)]
   by_cases hp:(cn (m.takeWhile bg)).2=true
   ·rw[S6 hp,S6 hp]
    exact m9 rfl hlb.symm hrm hl's hms ho hn
   ·rw[S4 hp,S4 hp]
    exact nc (B8 ho) hrm hn (ae hl's hms) (by omega)
theorem M5 {s:af} (hs:s.length≤200) {n:Nat} (HB:M3 s n) : ∀(k:Nat) (l l0:af),(bl l).length=k→bl l=bl l0→l <:+ s→l0 <:+ s→(bl l).length≤n → ∀(deep:Int) (ns:List ab),0≤deep→deep+((bl l).length:Int)≤200→cX ns=true→ns.length≤60 →
  kC s (bl l) 5 (iE deep (ba l) false ns) (rr (ba s) (bF s l0) false ns):=by
 intro k
 induction k using Nat.strongRecOn with
 | ind k ih =>
  intro l l0 hk hb hs1 hs2 hln deep ns hd0 hd ho hn
  subst hk
  have hl1:=aG hs1
  have hm1:=aG (av l)
  have hms:bl l <:+ s:=ae (av l) hs1
  rw[qv,ax (by omega),Gk,show(⟨#[45]⟩:S0)=ba [45] from rfl,show(⟨#[40]⟩:S0)=ba [40] from rfl,show(⟨#[34]⟩:S0)=ba [34] from rfl,show(⟨#[35]⟩:S0)=ba [35] from rfl,show(⟨#[41]⟩:S0)=ba [41] from rfl,dl (by omega),fO (by omega) (by decide) hs2]
  simp only[S1,S9,U6,gp,fd,kA (c:=45) (.inl rfl),S3,W0,W6,iy,←hb]
  by_cases h45:(bl l).head? = some 45
  ·simp only[h45,Y2,V4]
   have hlt:=lg h45
   have hX:(bl l).drop 1 <:+ bl l:=ep 1 _
   have hbX:=aG (av ((bl l).drop 1))
   have hlX:((bl l).drop 1).length < (bl l).length:=by
    obtain⟨t,ht⟩:=ib h45
    rw[ht]
    simp
   rw[wr (by omega) (by omega),Pn]
   refine na (ih _ (by omega) _ _ rfl rfl (ae hX hms) (ae hX hms) (by omega) (deep+1) ns (by omega) (by omega) ho hn) ?_ ?_
   ·intro i x1 x2 ns' e1 e2 e3 e4 e5 _
    exact m9 (x:=OK i) rfl e1 (ae e2 (ae (av _) hX)) (ae e3 (ae (av _) hX)) hms e4 e5
   ·intro i x1 b1 ns1 j x2 ns2 e1 e2 e3 e4 e5
    refine gz (dM e3) e1 (ae e2 (ae (av _) hX)) (G1 (x:=OK j) (ns:=ns2) (by omega) M4) e4 ?_
    show(ns2++[OK j]).length≤_
    rw[S5,S3]
    omega
  ·simp only[h45,Z0,S9,U6]
   rw[GW (by omega),fO (by omega) (by decide) hms]
   simp only[S1,cW,W0,W6,iy,S3]
   by_cases h40:(bl l).head? = some 40
   ·have n34 : ¬(bl l).head? = some 34:=by rw[h40]; decide
    have n35 : ¬(bl l).head? = some 35:=by rw[h40]; decide
    simp only[h40,Y2,V4]
    rw[S4 (by decide),S4 (by decide)]
    have hX:(bl l).drop 1 <:+ bl l:=ep 1 _
    have hbX:=aG (av ((bl l).drop 1))
    have hlX:((bl l).drop 1).length < (bl l).length:=by
     obtain⟨t,ht⟩:=ib h40
     rw[ht]
     simp
    rw[wr (by omega) (by omega)]
    refine na (HB _ _ rfl (ae hX hms) (ae hX hms) (by omega) 1 (deep+1) ns (by decide) (by decide) (by omega) (by omega) ho hn) ?_ ?_
    ·intro i x1 x2 ns' e1 e2 e3 e4 e5 _
     have hx1:x1 <:+ bl l:=ae e2 (ae (av _) hX)
     have hx2:x2 <:+ bl l:=ae e3 (ae (av _) hX)
     have hlx:=aG hx1
     simp only[S9,U6]
     rw[dl (by omega),fO (by omega) (by decide) (ae hx2 hms)]
     simp only[S1,kA (c:=41) (.inr (.inr (.inl rfl))),S3,W0,W6,iy,←e1]
     by_cases h41:(bl x1).head? = some 41
     ·simp only[h41,Y2,V4,V6,S9,U6]
      have hd1:(bl x1).drop 1 <:+ bl l:=ae (fw x1) hx1
      exact .inl ⟨i,(bl x1).drop 1,(bl x1).drop 1,ns',rfl,rfl,rfl,hd1,hd1,e4,e5,.inr (Lc _)⟩
     ·simp only[h41,Z0,U6,W0,S9,V4]
      have hd1:bl x1 <:+ bl l:=ae (av x1) hx1
      exact nc (B8 e4) hd1 e5 (ae hd1 hms) (by omega)
    ·intro i x1 b1 ns1 j x2 ns2 e1 e2 e3 e4 e5
     have hx1:x1 <:+ bl l:=ae e2 (ae (av _) hX)
     have hlx:=aG hx1
     rw[fO (by omega) (by decide) e4]
     simp only[S1,V6,Bool.false_and,S9,U6,W0,V4]
     cases b1 with
     | true =>
      simp only[V4]
      exact nc ⟨.inl rfl,e1.2⟩ hx1 e3 (ae (av x2) e4) (by omega)
     | false =>
      simp only[S9,U6]
      rw[dl (by omega)]
      simp only[S1]
      have hdm:cX ns1=false:=e1.1.elim (fun h=>by cases h) id
      refine nc ⟨.inr hdm,e1.2⟩ ?_ e3 (ae (av x2) e4) (by omega)
      split
      ·exact ae (ae (ep _ _) (av _)) hx1
      ·exact ae (av _) hx1
   ·simp only[h40,Z0,S9,U6]
    rw[fO (by omega) (by decide) hms]
    simp only[S1,cW,W0,W6,iy,S3]
    by_cases h34:(bl l).head? = some 34
    ·simp only[h34,Y2,V4]
     obtain⟨t,ht⟩:=ib h34
     have htl:t.length+1=(bl l).length:=by rw[ht]; simp
     have hts:t <:+ bl l:=⟨[34],by rw[ht]; rfl⟩
     rw[ht]
     simp only[X5,Z7]
     rw[B5 (by omega),OE (by omega) (ae hts hms)]
     cases hq:qt t with
     | none =>
      rw[←ht]
      exact nc (B8 ho) (lf _) hn ⟨s,by simp⟩ (by omega)
     | some p =>
      obtain⟨q1,q2,q3⟩:=MV t p.1 p.2 hq
      show kC s _ 5 (bN _ _ false ns) (bW _ _ _ false ns)
      rw[lD,←ht]
      have hp:=ae q1 hts
      refine m9 (x:=nC (2,0,ba ([]++p.1),())) (Jl ?_) rfl hp hp hms ho hn
      show(ba ([]++p.1)).size≤_
      rw[aN]
      simp only[ag_]
      omega
    ·simp only[h34,Z0,S9,U6]
     rw[fO (by omega) (by decide) hms]
     simp only[S1,cW,W0,W6,iy,S3]
     by_cases h35:(bl l).head? = some 35
     ·simp only[h35,Y2,V4]
      obtain⟨t,ht⟩:=ib h35
      have htl:t.length+1=(bl l).length:=by rw[ht]; simp
      have hts:t <:+ bl l:=⟨[35],by rw[ht]; rfl⟩
      rw[ht]
      simp only[X5,Z7]
      have es:=Ee (s:=s) (l:=t) (b:=false) (ns:=ns) (by omega) (ae hts hms) tR [] rfl
      have es:f0 1 (ba s) (bF s t) false ns=_:=es
      rw[Jo (by omega),es]
      cases tR.find? (tS t) with
      | none =>
       simp only
       rw[←ht]
       exact nc (B8 ho) (lf _) hn (ae hts hms) (by omega)
      | some e =>
       simp only
       rw[lD,←ht]
       have hp:=ae (ep (lC e).length t) hts
       exact m9 (x:=nC (vE e)) (Jl (by show eS.size≤_; decide)) rfl hp hp hms ho hn
     ·simp only[h35,Z0,S9,U6]
      exact OL hs HB (cW l) hms hln hd0 hd ho hn
noncomputable def xH:Nat→Int→(Int×Unit)×(iU×Unit)→RS
 | 0,_,z=>some ((z.1.1,()),(z.2.1,()))
 | c+1,L,z=>(cL (L+(c:Int)) z.1.1 z.2.1.1 z.2.1.2.1 z.2.1.2.2.1 z.2.1.2.2.2.1).bind (xH c L)
theorem C5 {L a:Int} {s:S0} {i:Int} {ns:List ab}:cL L a s i true ns=some ((a,()),((s,i,true,ns,()),())):=by
 rw[rz]
 rfl
theorem yx : ∀(c:Nat) (L a:Int) (s:S0) (i:Int) (ns:List ab),xH c L ((a,()),((s,i,true,ns,()),()))=some ((a,()),((s,i,true,ns,()),()))
 | 0,_,_,_,_,_=>rfl
 | c+1,L,a,s,i,ns=>by
  show(cL _ a s i true ns).bind (xH c L)=_
  rw[C5]
  exact yx c L a s i ns
theorem G2 : ∀(c:Nat) (L:Int) (z:(Int×Unit)×(iU×Unit)),xH (c+1) L z=(xH c (L+1) z).bind fun z2=>cL L z2.1.1 z2.2.1.1 z2.2.1.2.1 z2.2.1.2.2.1 z2.2.1.2.2.2.1
 | 0,L,z=>by
  show(cL (L+((0:Nat):Int)) z.1.1 z.2.1.1 z.2.1.2.1 z.2.1.2.2.1 z.2.1.2.2.2.1).bind (fun z=>some ((z.1.1,()),(z.2.1,())))=cL L z.1.1 z.2.1.1 z.2.1.2.1 z.2.1.2.2.1 z.2.1.2.2.2.1
  rw[fd,show L+((0:Nat):Int)=L by omega]
 | c+1,L,z=>by
  show(cL (L+((c+1:Nat):Int)) z.1.1 z.2.1.1 z.2.1.2.1 z.2.1.2.2.1 z.2.1.2.2.2.1).bind (xH (c+1) L)=((cL (L+1+(c:Int)) z.1.1 z.2.1.1 z.2.1.2.1 z.2.1.2.2.1 z.2.1.2.2.2.1).bind (xH c (L+1))).bind _
  rw[show L+((c+1:Nat):Int)=L+1+(c:Int) by omega,Option.bind_assoc]
  congr 1
  funext y
  exact G2 c L y
theorem B9 {s:S0} {a:Int} {ns:List ab} : ∀(c:Nat) (L:Int),L+(c:Int)=5→1≤L→dI L s a false ns=(dI 5 s a false ns).bind (xH c L)
 | 0,L,h,_=>by
  have:L=5:=by omega
  subst this
  exact fd.symm
 | c+1,L,h,h1=>by
  have hL : ¬(L == 5)=true:=by simp only[beq_iff_eq]; omega
  rw[xo,S4 (by decide),S4 hL,wr (by omega) (by omega),B9 c (L+1) (by omega) (by omega),Option.bind_assoc]
  congr 1
  funext z
  exact(G2 c L z).symm
abbrev nB (op a b:Int):ab:=(5,op,(0,0,(⟨#[]⟩:S0),()),((0,0,()),false,false,()),((0,0,()),false,false,()),([a,b]:(List Int)),())
theorem OM {s m' l1 l2:af} {L':Int} {x:ab} {ns:List ab} {K:(Int×Unit)×(mR×Unit)→RI} {K':(Int×Unit)×(iU×Unit)→RS} (hsx:rK x=true) (ho:cX ns=true) (hn:ns.length≤60)
  (hg:cX (ns++[x])=true→(ns++[x]).length≤60→kC s m' L' (K (((ns.length:Int),()),((ba l1,ns++[x],false,()),()))) (K' (((ns.length:Int),()),((ba s,bF s l2,false,ns++[x],()),()))))
  (hd : ∀(i:Int) (b1:Bool) (ns1:List ab),Dm b1 ns1→ns1.length≤60→kC s m' L' (K ((i,()),((ba l1,ns1,b1,()),()))) (K' (((ns.length:Int),()),((ba s,bF s l2,true,ns++[x],()),())))) :
  kC s m' L' ((aX x (ba l1) false ns).bind K) ((bW x (ba s) (bF s l2) false ns).bind K'):=by
 have hx:=G0 hsx
 obtain⟨i,e,hi⟩:=yt (x:=x) (l:=l1) (b:=false) hn
 rw[e,C0 (by omega) hx]
 simp only[S1]
 by_cases hlt:ns.length < 60
 ·have hi:=hi rfl hlt
  subst hi
  have d60:decide (60≤ns.length)=false:=U9 (by omega)
  simp only[d60,hlt,and_self,V4,cf_]
  cases hk:ed x with
  | true =>
   refine hg ?_ ?_
   ·unfold cX at ho ⊢
    rw[bi_,ho]
    simp[hk]
   ·rw[S5,S3]; omega
  | false =>
   refine hd _ false (ns++[x]) ⟨.inr ?_,Jp (vn ho) hsx⟩ ?_
   ·unfold cX
    rw[bi_]
    simp[hk]
   ·rw[S5,S3]; omega
 ·have d60:decide (60≤ns.length)=true:=U2 (by omega)
  rw[d60,S4 (by omega)]
  simp only[cf_,Bool.true_or]
  exact hd i true ns (B8 ho) hn
theorem OO {s:af} (hs:s.length≤200) {n:Nat} (HB:M3 s n) : ∀(k c:Nat) (l1 l2 M:af),(bl l1).length=k→bl l1=bl l2→l1 <:+ M→l2 <:+ M→M <:+ s→(bl l1).length≤n → ∀(L left deep:Int) (ns:List ab),1≤L→L+(c:Int)≤5→0≤deep→deep+((bl l1).length:Int)≤200→cX ns=true→ns.length≤60→(ew (bl l1)=0∨cT (ew (bl l1)) < L+(c:Int)) →
  kC s M L (dS L deep left (ba l1) false ns) (xH c L ((left,()),((ba s,bF s l2,false,ns,()),()))):=by
 intro k
 induction k using Nat.strongRecOn with
 | ind k ih =>
  intro c
  induction c with
  | zero =>
   intro l1 l2 M hk hb hs1 hs2 hMs hln L left deep ns hL0 hL1 hd0 hd ho hn hpost
   have hl1:=aG (ae hs1 hMs)
   have hbl:=aG (av l1)
   obtain⟨o1,o2⟩:=oj (bl l1)
   rw[iv]
   simp only[W0,V4]
   rw[Ag (by omega),C4 o1 o2 (by omega) (fun h=>by rw[cW]; exact vh h),S6 (by omega)]
   refine .inl ⟨left,bl l1,l2,ns,rfl,rfl,by rw[cW,hb],ae (av l1) hs1,hs2,ho,hn,?_⟩
   rw[cW]
   omega
  | succ c ihc =>
   intro l1 l2 M hk hb hs1 hs2 hMs hln L left deep ns hL0 hL1 hd0 hd ho hn hpost
   have hl1:=aG (ae hs1 hMs)
   have hbl:=aG (av l1)
   have hs2s:=ae hs2 hMs
   obtain⟨o1,o2⟩:=oj (bl l1)
   obtain⟨l',hl',eop⟩:=QZ (s:=s) (l:=l2) (ns:=ns) (L:=L+(c:Int)) (by omega) (by omega) hs2s
   have hCh:xH (c+1) L ((left,()),((ba s,bF s l2,false,ns,()),()))=(cL (L+(c:Int)) left (ba s) (bF s l2) false ns).bind (xH c L):=rfl
   rw[hCh,rz]
   simp only[W0,V4]
   rw[eop,←hb]
   by_cases hop:ew (bl l1)≠0∧cT (ew (bl l1))=L+(c:Int)
   ·rw[S6 hop]
    have h0 : ¬(ew (bl l1) == 0)=true:=by simpa using hop.1
    unfold vk
    simp only[S1]
    rw[S4 h0,←hb,wr (by omega) (by omega)]
    have hlt:=GZ hop.1
    have hX:(bl l1).drop (dz (ew (bl l1))).length <:+ M:=ae (ep _ _) (ae (av l1) hs1)
    have hXM:=aG hX
    have hXl:((bl l1).drop (dz (ew (bl l1))).length).length < (bl l1).length:=by
     have:=GZ (l:=bl l1) (by rw[cW]; exact hop.1)
     rw[cW] at this
     exact this
    have hbX:=aG (av ((bl l1).drop (dz (ew (bl l1))).length))
    rw[iv]
    simp only[W0,V4]
    rw[Ag (by omega),C4 o1 o2 (by omega) (fun h=>by rw[cW]; exact vh h),S4 (by omega),cW,hop.2,Option.bind_assoc]
    have hMl:(bl l1).length≤M.length:=aG (ae (av l1) hs1)
    refine na (HB _ _ rfl (ae hX hMs) (ae hX hMs) (by omega) (L+(c:Int)+1) deep ns (by omega) (by omega) hd0 (by omega) ho hn) ?_ ?_
    ·intro i x1 x2 ns' e1 e2 e3 e4 e5 e6
     have hx1:x1 <:+ M:=ae e2 (ae (av _) hX)
     have hx2:x2 <:+ M:=ae e3 (ae (av _) hX)
     have hxl:=aG e2
     have hbx:=aG (av x1)
     have hxM:=aG hx1
     have hMsl:=aG hMs
     simp only
     rw[Option.bind_assoc]
     refine OM (x:=nB (ew (bl l1)) left i) rfl e4 e5 ?_ ?_
     ·intro a1 a2
      exact ih _ (by omega) (c+1) x1 x2 M rfl e1 hx1 hx2 hMs (by omega) L _ deep _ hL0 hL1 hd0 (by omega) a1 a2 (by omega)
     ·intro i2 b1 ns1 a1 a2
      simp only
      rw[C5]
      simp only[S1]
      rw[yx]
      refine gz (vm _ x1 rfl (fun l' _ deep least b ns d0 d1 hn=>yv l' deep least b ns d0 d1 hn) L deep i2 b1 ns1 hd0 (by omega) a2) a1 hx1 rfl (ae hx2 hMs) ?_
      rw[S5,S3]
      omega
    ·intro i x1 b1 ns1 j x2 ns2 e1 e2 e3 e4 e5
     have hx1:x1 <:+ M:=ae e2 (ae (av _) hX)
     have hxM:=aG hx1
     have hMsl:=aG hMs
     simp only
     rw[G1 (x:=nB (ew (bl l1)) left j) (ns:=ns2) (by omega) M4]
     simp only[S1]
     rw[C5]
     simp only[S1]
     rw[yx]
     obtain⟨i3,l3,b3,ns3,h3,j1,j2,j3⟩:=(dM (x:=nB (ew (bl l1)) left i) (l:=x1) (b:=b1) e3).dm e1
     rw[h3]
     simp only[S1]
     have hs3:=aG j1
     refine gz (vm _ l3 rfl (fun l' _ deep least b ns d0 d1 hn=>yv l' deep least b ns d0 d1 hn) L deep i3 b3 ns3 hd0 (by omega) j3) j2 (ae j1 hx1) rfl e4 ?_
     rw[S5,S3]
     omega
   ·rw[S4 hop]
    unfold vk
    simp only[S1]
    rw[S6 (by rfl)]
    simp only[S1]
    have hb':bl l1=bl l':=by
     rcases hl' with rfl | rfl
     ·exact hb
     ·rw[cW,hb]
    have hs':l' <:+ M:=by
     rcases hl' with rfl | rfl
     ·exact hs2
     ·exact ae (av l2) hs2
    exact ihc l1 l' M hk hb' hs1 hs' hMs hln L left deep ns hL0 (by omega) hd0 hd ho hn (by omega)
theorem M6 {s:af} (hs:s.length≤200) : ∀ n,M3 s n
 | 0=>fun l l0 _ _ _ h=>by omega
 | n+1=>by
  have HB:=M6 hs n
  intro l l0 hb hs1 hs2 hln L deep ns hL0 hL1 hd0 hd ho hn
  have hms:bl l <:+ s:=ae (av l) hs1
  have hm:=aG hms
  rw[oM,B9 (5 - L).toNat L (by omega) hL0,Pn]
  refine na (M5 hs HB _ l l0 rfl hb hs1 hs2 (by omega) deep ns hd0 hd ho hn) ?_ ?_
  ·intro i x1 x2 ns' e1 e2 e3 e4 e5 _
   have hbx:=aG (av x1)
   have hx:=aG e2
   exact OO hs HB _ (5 - L).toNat x1 x2 (bl l) rfl e1 e2 e3 hms (by omega) L i deep ns' hL0 (by omega) hd0 (by omega) e4 e5 (.inr (by have:=Lc (ew (bl x1)); omega))
  ·intro i x1 b1 ns1 j x2 ns2 e1 e2 e3 e4 e5
   have hx:=aG e2
   rw[yx]
   exact gz (vm _ x1 rfl (fun l' _ deep least b ns d0 d1 hn=>yv l' deep least b ns d0 d1 hn) L deep i b1 ns1 hd0 (by omega) e3) e1 e2 rfl e4 e5
theorem Le {ns:List ab} (h:sm ns=true) : ∀ x∈ns,x.2.2.1.2.2.1.size≤9223372036854775807:=by
 unfold sm at h
 rw[Z2] at h
 exact fun x hx=>G0 (h x hx)
theorem Lf {ns:List ab} (h:sm ns=true) : ∀ x∈ns,x.2.2.2.2.2.1.length≤10000000:=by
 unfold sm at h
 rw[Z2] at h
 intro x hx
 have:=h x hx
 unfold rK at this
 rw[S8,T0,T0] at this
 omega
theorem Q0 (s:af):bF s s=0:=by
 unfold bF
 omega
theorem RQ {x:S0} (hx:x.size≤9223372036854775807) : ∃(f:List ab) (b:Bool),qf x=some ((f,b,()),())∧qm x=some ((f,b,()),())∧(b=true→oS f=true)∧(b=false→f=[]):=by
 obtain⟨s,rfl⟩ : ∃ s,x=ba s:=⟨lb x,(jc x).symm⟩
 rw[Bt,BF,sk hx,vd hx]
 simp only[S1]
 cases hp:(plain (ba s) && decide (((ba s).size:Int)≤200)) with
 | false=>exact⟨[],false,rfl,rfl,(fun h=>by cases h),fun _=>rfl⟩
 | true =>
  rw[S8,T0,aN] at hp
  have hs:s.length≤200:=by omega
  have hbl:=aG (av s)
  have h:=M6 hs (s.length+1) s s rfl (lf s) (lf s) (by omega) 1 0 [] (by decide) (by decide) (by decide) (by omega) rfl (by simp)
  rw[Q0] at h
  simp only[V6,S9,U6]
  rcases h with⟨i,l1,l2,ns,e1,e2,h1,h2,h3,h4,h5,h6⟩ | ⟨i,l1,b1,ns1,j,l2,ns2,e1,h1,h2,h3,e2,h4,h5⟩
  ·rw[e1,e2]
   simp only[S1]
   rw[GM (by omega) (ae h3 (av s)),mt]
   simp only[S1,S9,U6]
   have e0:(S2 (ba (bl l1)) == S2 (⟨#[]⟩:S0))=decide (bl l1=[]):=di (b:=[])
   rw[e0,←h1,aN,oE (by omega) (Le (vn h4)) (Lf (vn h4)),v8 (by omega) (Le (vn h4)) (Lf (vn h4))]
   simp only[S1]
   by_cases hr:bl l1=[]
   ·rw[ax (by rw[hr]; unfold bF; simp),hr]
    simp only[Y2,V6,S9,U6]
    cases hk:oS ns with
    | true=>exact⟨ns,true,rfl,rfl,fun _=>hk,fun h=>by cases h⟩
    | false=>exact⟨[],false,rfl,rfl,(fun h=>by cases h),fun _=>rfl⟩
   ·have hlen:=bs_.2 hr
    have hls:=aG (ae (ae (av l1) h2) (av s))
    rw[aC (by unfold bF; omega)]
    simp only[hr,Z0,W0,V4]
    exact⟨[],false,rfl,rfl,(fun h=>by cases h),fun _=>rfl⟩
  ·rw[e1,e2]
   simp only[S1]
   rw[GM (by omega) h4,mt]
   simp only[S1,V4]
   refine⟨[],false,rfl,?_,(fun h=>by cases h),fun _=>rfl⟩
   cases b1 with
   | true=>rfl
   | false =>
    have hbad:cX ns1=false:=h1.1.elim (fun h=>by cases h) id
    simp only[S9,U6]
    split
    ·rfl
    ·rw[oE (by omega) (Le h1.2) (Lf h1.2)]
     simp only[S1]
     cases hk:oS ns1 with
     | false=>rfl
     | true =>
      exfalso
      have:cX ns1=true:=by
       unfold cX
       rw[Z2]
       intro y hy
       obtain⟨i,hi⟩:=do_ hy
       exact(vg hk i y hi).1
      rw[this] at hbad
      cases hbad
def qT:af→af
 | []=>[]
 | c :: l=>if c=34 then 34 :: 34 :: qT l else c :: qT l
theorem M7 : ∀ l:af,(qT l).length≤2*l.length
 | []=>by simp[qT]
 | c :: l=>by
  have:=M7 l
  unfold qT
  split <;> simp only[T3] <;> omega
theorem G3 (l:af) : ∀ pre:af,(34:UInt8) ∉ pre→qT (pre++l)=pre++qT l
 | [],_=>rfl
 | c :: pre,h=>by
  simp only[U7,not_or] at h
  rw[be_,qT,S4 (fun e=>h.1 e.symm),G3 l pre h.2]
  rfl
theorem Lg : ∀(n:Nat) (l:af),l.length=n→Lib.replaceK [34] [34,34] (l.count 34) l=qT l:=by
 intro n
 induction n using Nat.strongRecOn with
 | ind n ih =>
  intro l hn
  by_cases hm:(34:UInt8)∈l
  ·obtain⟨pre,t,rfl,h2⟩:=Ai 34 l hm
   have hc:(pre++34 :: t).count 34=t.count 34+1:=by
    rw[List.count_append,List.count_eq_zero.2 h2,List.count_cons_self]
    omega
   have hi:Lib.index (pre++34 :: t) [34]=(pre.length:Nat):=by rw[Lib.index_one,C1 34 t pre h2]
   rw[hc,Lib.replaceK_hit _ _ _ _ _ hi,List.take_left' rfl,G3 _ pre h2]
   have hd:(pre++34 :: t).drop (pre.length+([34]:af).length)=t:=by
    have:pre++34 :: t=(pre++[34])++t:=by simp
    rw[this,List.drop_left' (by simp)]
   rw[hd,ih t.length (by rw[←hn]; simp; omega) t rfl]
   simp[qT]
  ·rw[List.count_eq_zero.2 hm]
   have:=G3 [] l hm
   rw[W9] at this
   rw[this]
   simp[qT,Lib.replaceK]
theorem IJ {l:af} (hl:l.length≤1000000):strings_ReplaceAll (ba l) (⟨#[34]⟩:S0) (⟨#[34,34]⟩:S0)=some ((ba (qT l),()),()):=by
 rw[tx]
 have hcount:Lib.countB (ba l) (ba [34])=l.count 34:=by
  show Lib.count (lb (ba l)) (lb (ba [34]))=_
  rw[dq,dq,Lib.count_one]
 have hle:l.count 34≤l.length:=List.count_le_length
 show(if(ba l).size < 4294967281∧1≤(ba [34]).size∧(ba l).size+Lib.countB (ba l) (ba [34])*(ba [34,34]).size≤140737488355328 then some (((⟨(Lib.replaceAll (lb (ba l)) (lb (ba [34])) (lb (ba [34,34]))).toArray⟩:S0),()),()) else none)=_
 rw[S6 ⟨by rw[aN]; omega,by decide,by rw[hcount,aN,aN]; simp only[T3,V3]; omega⟩,dq,dq,dq]
 congr 3
 show ba (Lib.replaceAll l [34] [34,34])=_
 unfold Lib.replaceAll Lib.replace Lib.replaceNum
 rw[S4 (by decide),S6 (.inl (by decide)),Lib.count_one,Lg _ l rfl]
theorem sx {s:af} (hs:s.length≤1000000) : ∀(l acc:af),l <:+ s→acc.length+2*l.length≤4000000→kt (ba s) (ba acc) (bF s l)=some ((ba (acc++qT l++[34]),()),())
 | [],acc,h,ha=>by
  rw[tC,ax (by rw[aN]; unfold bF; simp),show(⟨#[34]⟩:S0)=ba [34] from rfl,bz (by simp only[S3]; simp at ha; omega)]
  simp[qT]
 | c :: l,acc,h,ha=>by
  obtain⟨pre,h1,h2⟩:=ld h
  have hl:pre.length+l.length+1=s.length:=by rw[h1]; simp; omega
  rw[T3] at ha
  have h':l <:+ s:=ae ⟨[c],rfl⟩ h
  have e1:(pre.length:Int)+1=bF s l:=by
   unfold bF
   omega
  have e3:(s.take (pre.length+1)).drop pre.length=[c]:=by
   rw[h1,List.take_append,List.drop_append]
   simp
  rw[tC,h2,aC (by rw[aN]; omega),gm h1,CX c 34 (n:=34) rfl,wr (by omega) (by omega),show(pre.length:Int)+1=((pre.length+1:Nat):Int) by omega,tO (by omega) (by omega),e3]
  by_cases hc:c=34
  ·subst hc
   rw[aC rfl,show(⟨#[34]⟩:S0)=ba [34] from rfl,bz (by simp only[S3]; omega),tO (by omega) (by omega),e3,bz (by simp only[S5,S3]; omega),show((pre.length+1:Nat):Int)=bF s l by omega,sx hs l _ h' (by simp only[S5,S3]; omega)]
   simp[qT]
  ·rw[ax hc,bz (by simp only[S3]; omega),show((pre.length+1:Nat):Int)=bF s l by omega,sx hs l _ h' (by simp only[S5,S3]; omega)]
   simp[qT,hc]
theorem M8 {l:af} (hl:l.length≤1000000):zM (ba l)=some ((ba (34 :: (qT l++[34])),()),()):=by
 rw[Ie,show(⟨#[34]⟩:S0)=ba [34] from rfl]
 have:=sx hl l [34] (lf l) (by simp only[S3]; omega)
 rw[Q0] at this
 rw[this]
 simp
def cM:List af→af
 | []=>[]
 | [x]=>x
 | x :: y :: l=>x++44 :: cM (y :: l)
def cO (f:List ab):Nat→Int→Int→af
 | 0,_,_=>[]
 | n+1,k,L =>
  let x:=GA f k
  if x.1=1 then(if x.2.2.1.1=2 then 34 :: (qT (lb x.2.2.1.2.2.1)++[34]) else lb (dy x.2.2.1))
  else if x.1=2 then jd x.2.2.2.1
  else if x.1=3 then jd x.2.2.2.1++58 :: jd x.2.2.2.2.1
  else if x.1=4 then 45 :: cO f n (x.2.2.2.2.2.1.getD 0 0) 5
  else if x.1=5 then
   let b:=cO f n (x.2.2.2.2.2.1.getD 0 0) (cT x.2.1)++(dz x.2.1++cO f n (x.2.2.2.2.2.1.getD 1 0) (cT x.2.1+1))
   if cT x.2.1 < L then 40 :: (b++[41]) else b
  else eM x.2.1++40 :: (cM (x.2.2.2.2.2.1.map fun k=>cO f n k 1)++[41])
theorem zm : ∀ l:List af,cM l=Lib.join l [44]
 | []=>rfl
 | [x]=>by rw[Lib.join_one]; rfl
 | x :: y :: l=>by
  rw[cM,zm (y :: l),Lib.join_cons,Lib.join_cons]
  simp[Lib.joinTail]
theorem zn (x:af) : ∀(l:List af),l≠[]→cM (l++[x])=cM l++44 :: x
 | [y],_=>rfl
 | y :: z :: l,_=>by
  show y++44 :: cM (z :: l++[x])=(y++44 :: cM (z :: l))++44 :: x
  rw[zn x (z :: l) (by simp)]
  simp
theorem Ca : ∀ l:List af,(cM l).length≤(l.map T5).sum+l.length
 | []=>by simp[cM]
 | [x]=>by simp[cM]
 | x :: y :: l=>by
  have:=Ca (y :: l)
  simp only[cM,S5,T3,Y4,List.sum_cons] at this ⊢
  omega
theorem OP {xs:List af} (h1:xs.length≤1000) (h2:(cM xs).length≤10000000):strings_Join (xs.map fun x=>ba x) (⟨#[44]⟩:S0)=some ((ba (cM xs),()),()):=by
 rw[BH]
 have e:(xs.map fun x=>ba x).map (·.data.toList)=xs:=by
  rw[List.map_map]
  conv=>rhs; rw[←List.map_id xs]
  apply List.map_congr_left
  intro x _
  exact dq x
 show(if(xs.map fun x=>ba x).length≤140737488355328∧(Lib.join ((xs.map fun x=>ba x).map (·.data.toList)) (lb (ba [44]))).length≤140737488355328 then some (((⟨(Lib.join ((xs.map fun x=>ba x).map (·.data.toList)) (lb (ba [44]))).toArray⟩:S0),()),()) else none)=_
 rw[e,dq,←zm,S6 ⟨by rw[X6]; omega,by omega⟩]
theorem yy {p:b9} (h:bT p.1=true):(jd p).length≤6:=by
 obtain⟨c,r,fc,fr,rfl,h1,h2,h3,h4⟩:=xE h
 have k1:=qQ c
 have k2:=ph h4
 show(tP c r fc fr).length≤6
 unfold tP m7
 simp only[S5]
 cases fc <;> cases fr <;> simp <;> omega
theorem Jq (k:Int):(eM k).length≤5:=by
 unfold eM
 by_cases hi:k.toNat < 11
 ·have h : ∀ j:Fin 11,(([[],[83,85,77],[77,73,78],[77,65,88],[67,79,85,78,84],[73,70],[65,78,68],[79,82],[78,79,84],[65,66,83],[76,69,78]]:List af).getD j.val []).length≤5:=by decide
  exact h ⟨k.toNat,hi⟩
 ·rw[V9,List.getElem?_eq_none (by simp; omega)]
  simp
theorem G4 {c:Int→Option (Int×Nat)} {f:List ab} {call:Bool} : ∀(l:List Int) (cur:Int) (h:Nat) (s:Int) (h':Nat),eD c f call l cur h=some (s,h') →
  (∀ kid∈l,∃ p,c kid=some p) ∧ ∀ g:Int→Nat,(∀ kid s' h'',c kid=some (s',h'')→(g kid:Int)≤1000*(kid - s'+1))→(((l.map g).sum:Nat):Int)≤1000*(cur - s)
 | [],cur,h,s,h',e=>by
  simp only[eD,U3,cx_] at e
  obtain⟨rfl,_⟩:=e
  exact⟨fun _ h=>by simp at h,fun g _=>by simp⟩
 | kid :: l,cur,h,s,h',e=>by
  simp only[eD] at e
  split at e
  ·rename_i hk
   rw[Option.bind_eq_some_iff] at e
   obtain⟨p,hp,e⟩:=e
   obtain⟨k1,k2⟩:=G4 l p.1 _ s h' e
   refine⟨fun kid' hm => ?_,fun g hg => ?_⟩
   ·rcases U7.1 hm with rfl | hm
    ·exact⟨p,hp⟩
    ·exact k1 kid' hm
   ·have h1:=k2 g hg
    have h2:=hg kid p.1 p.2 hp
    have:=hk.1
    simp only[Y4,List.sum_cons]
    omega
  ·cases e
section
variable {f:List ab}
theorem G5 (n:Nat) (k:Int):cO f n k 0=cO f n k 1:=by
 cases n with
 | zero=>rfl
 | succ n =>
  have hlv : ∀ j,¬cT j < 0 ∧ ¬cT j < 1:=by
   intro j
   unfold cT
   constructor <;> (repeat' split) <;> omega
  unfold cO
  simp only[(hlv _).1,(hlv _).2,U6]
def Lh (f:List ab) (n:Nat) (k:Int):Prop := ∀ L:Int,eK f k L=some ((ba (cO f n k L),()),())∧jW f k L=some ((ba (cO f n k L),()),())
theorem Cb {n:Nat} {kids:List Int} {a op:Int} {v:aI} {A B:b9} {kids':List Int} (hop:0≤op∧op≤10) (hl:kids.length≤10) (hk : ∀ k∈kids,Lh f n k) (hlen:(cM (kids.map fun k=>cO f n k 1)).length≤1000000) : ∀(ys pre:List Int),kids=pre++ys →
  ir f kids (kids.length:Int) (pre.length:Int) a op v A B kids' ((pre.map fun k=>cO f n k 1).map fun x=>ba x)=some ((ba (eM op++40 :: (cM (kids.map fun k=>cO f n k 1)++[41])),()),())
 | [],pre,h=>by
  rw[W9] at h
  subst h
  have hf:=Jq op
  rw[mD,ax (Int.lt_irrefl _),B6 hop.1 hop.2]
  simp only[S1]
  rw[show(⟨#[40]⟩:S0)=ba [40] from rfl,bz (by simp only[S3]; omega),OP (by rw[X6]; omega) (by omega)]
  simp only[S1]
  rw[bz (by simp only[S5,S3]; omega),show(⟨#[41]⟩:S0)=ba [41] from rfl,bz (by simp only[S5,S3]; omega)]
  simp
 | y :: ys,pre,h=>by
  rw[mD,aC (bq h),bk h,(hk y (by rw[h]; simp) 1).1]
  simp only[S1]
  have hpl:pre.length≤10:=by
   have:=T4 T5 h
   simp at this
   omega
  rw[bA (by simp only[X6,S3]; omega),aL h (by omega)]
  have:=Cb (a:=a) (v:=v) (A:=A) (B:=B) (kids':=kids') hop hl hk hlen ys (pre++[y]) (aM h)
  rw[bq_,bq_] at this
  exact this
theorem Cc {n:Nat} {kids:List Int} {a op:Int} {v:aI} {A B:b9} (hl:kids.length≤10) (hk : ∀ k∈kids,Lh f n k) (hlen : ∀ pre ys:List Int,kids=pre++ys→(cM (pre.map fun k=>cO f n k 1)).length≤1000000) (hop:(eM op).length≤5) : ∀(ys pre:List Int),kids=pre++ys →
  ku f (ba (eM op++40 :: cM (pre.map fun k=>cO f n k 1))) (pre.length:Int) a op v A B kids=some ((ba (eM op++40 :: (cM (kids.map fun k=>cO f n k 1)++[41])),()),())
 | [],pre,h=>by
  have h0:=hlen pre [] h
  rw[W9] at h
  subst h
  rw[tD,ax (Int.lt_irrefl _),show(⟨#[41]⟩:S0)=ba [41] from rfl,bz (by simp only[S5,T3,V3]; omega)]
  simp
 | y :: ys,pre,h=>by
  have h0:=hlen pre (y :: ys) h
  have h1:=hlen (pre++[y]) ys (aM h)
  have hpl:pre.length≤10:=by
   have:=T4 T5 h
   simp at this
   omega
  have ih:=Cc (a:=a) (v:=v) (A:=A) (B:=B) hl hk hlen hop ys (pre++[y]) (aM h)
  rw[bq_,List.map_singleton] at ih h1
  rw[tD,aC (bq h)]
  by_cases hp:pre=[]
  ·subst hp
   simp only[ag_,List.map_nil,cM] at ih h1 ⊢
   rw[ax (by simp),bk (pre:=[]) h,(hk y (by rw[h]; simp) 0).2,G5]
   simp only[S1]
   rw[bz (by simp only[S5,T3,V3]; omega),aL (pre:=[]) h (by omega)]
   have e:eM op++[40]++cO f n y 1=eM op++40 :: cO f n y 1:=by simp
   rw[e]
   exact ih
  ·have hpos:=bs_.2 hp
   rw[zn _ _ (by simpa using hp)] at ih h1
   simp only[S5,T3] at h1
   rw[aC (by omega),show(⟨#[44]⟩:S0)=ba [44] from rfl,bz (by simp only[S5,T3,V3]; omega),bk h,(hk y (by rw[h]; simp) 0).2,G5]
   simp only[S1]
   rw[bz (by simp only[S5,T3,V3]; omega),aL h (by omega)]
   have e:eM op++40 :: cM (pre.map fun k=>cO f n k 1)++[44]++cO f n y 1=eM op++40 :: (cM (pre.map fun k=>cO f n k 1)++44 :: cO f n y 1):=by simp
   rw[e]
   exact ih
end
section
variable {f:List ab}
theorem Q1 {l:List Int} (h:l.length=2) : ∃ a b,l=[a,b]:=by
 match l,h with
 | [a,b],_=>exact⟨a,b,rfl⟩
theorem Jr (hf:f.length≤60) : ∀(n:Nat) (k s:Int) (h:Nat),ee f n k=some (s,h)→Lh f n k ∧ ∀ L:Int,((cO f n k L).length:Int)≤1000*(k - s+1)
 | 0,k,s,h,e=>by simp[ee] at e
 | n+1,k,s,h,e=>by
  have hall:=f3 f (n+1) k s h e
  obtain⟨hs0,hsk,_⟩:=hall
  have IH:=Jr hf n
  simp only[ee] at e
  split at e
  ·rename_i h0
   split at e
   ·cases e
   ·rename_i x hx
    split at e
    ·rename_i hok
     obtain⟨q1,q2⟩:=G4 _ _ _ _ _ e
     have hkl:k < 60:=by
      have:=(List.getElem?_eq_some_iff.1 hx).1
      omega
     have hK : ∀ kid∈x.2.2.2.2.2.1,Lh f n kid ∧ ∃ s' h',ee f n kid=some (s',h'):=by
      intro kid hm
      obtain⟨p,hp⟩:=q1 kid (List.mem_reverse.2 hm)
      exact⟨(IH kid p.1 p.2 hp).1,p.1,p.2,hp⟩
     have hnode:GA f k=x:=by
      unfold GA
      rw[V9,hx]
      rfl
     have hfx : ∀ L,cO f (n+1) k L=(if x.1=1 then(if x.2.2.1.1=2 then 34 :: (qT (lb x.2.2.1.2.2.1)++[34]) else lb (dy x.2.2.1))
      else if x.1=2 then jd x.2.2.2.1
      else if x.1=3 then jd x.2.2.2.1++58 :: jd x.2.2.2.2.1
      else if x.1=4 then 45 :: cO f n (x.2.2.2.2.2.1.getD 0 0) 5
      else if x.1=5 then(if cT x.2.1 < L then 40 :: ((cO f n (x.2.2.2.2.2.1.getD 0 0) (cT x.2.1)++(dz x.2.1++cO f n (x.2.2.2.2.2.1.getD 1 0) (cT x.2.1+1)))++[41]) else(cO f n (x.2.2.2.2.2.1.getD 0 0) (cT x.2.1)++(dz x.2.1++cO f n (x.2.2.2.2.2.1.getD 1 0) (cT x.2.1+1))))
      else eM x.2.1++40 :: (cM (x.2.2.2.2.2.1.map fun k=>cO f n k 1)++[41])):=by
      intro L
      conv=>lhs; unfold cO
      rw[hnode]
     have hI : ∀ L,eK f k L=_:=fun L=>(BG (x0:=f) (x1:=k) (x2:=L)).trans (df h0 hx)
     have hS : ∀ L,jW f k L=_:=fun L=>(KF (x0:=f) (x1:=k) (x2:=L)).trans (df h0 hx)
     unfold ed kl at hok
     by_cases c1:x.1=1
     ·rw[S6 c1] at hok
      simp only[S8,T0] at hok
      have hv:=hok.1.1.2
      have hsz:=gl hv
      have b1:(x.1 == 1)=true:=by rw[c1]; rfl
      by_cases c2:x.2.2.1.1=2
      ·have b2:(x.2.2.1.1 == 2)=true:=by rw[c2]; rfl
       have hlb:(lb x.2.2.1.2.2.1).length≤200:=by rw[yn]; exact hsz
       have hq:=M7 (lb x.2.2.1.2.2.1)
       have ea : ∀ L,cO f (n+1) k L=34 :: (qT (lb x.2.2.1.2.2.1)++[34]):=fun L=>by rw[hfx,S6 c1,S6 c2]
       refine⟨fun L=>⟨?_,?_⟩,fun L => ?_⟩
       ·rw[hI,S6 b1,S6 b2,←jc x.2.2.1.2.2.1,IJ (by omega)]
        simp only[S1]
        rw[show(⟨#[34]⟩:S0)=ba [34] from rfl,bz (by simp only[S3]; omega),bz (by simp only[S5,S3]; omega),ea]
        simp
       ·rw[hS,S6 b1,S6 b2,←jc x.2.2.1.2.2.1,M8 (by omega)]
        simp only[S1]
        rw[ea]
       ·rw[ea]
        simp only[T3,S5,V3]
        omega
      ·have b2 : ¬(x.2.2.1.1 == 2)=true:=by simpa using c2
       have hvs:=ML hv
       have ea : ∀ L,cO f (n+1) k L=lb (dy x.2.2.1):=fun L=>by rw[hfx,S6 c1,S4 c2]
       refine⟨fun L=>⟨?_,?_⟩,fun L => ?_⟩
       ·rw[hI,S6 b1,S4 b2,v7 hv,ea,jc]
        rfl
       ·rw[hS,S6 b1,S4 b2,kO (rG hv),S6 hv,ea,jc]
        rfl
       ·rw[ea,yn]
        omega
     rw[S4 c1] at hok
     have b1 : ¬(x.1 == 1)=true:=by simpa using c1
     by_cases c2:x.1=2
     ·rw[S6 c2] at hok
      simp only[S8,T0] at hok
      have b2:(x.1 == 2)=true:=by rw[c2]; rfl
      have hr:=hok.2
      have hp:=yy hr
      have ea : ∀ L,cO f (n+1) k L=jd x.2.2.2.1:=fun L=>by rw[hfx,S4 c1,S6 c2]
      refine⟨fun L=>⟨?_,?_⟩,fun L => ?_⟩
      ·rw[hI,S4 b1,S6 b2,iL,S6 hr,ea]
       rfl
      ·rw[hS,S4 b1,S6 b2,iM,S6 hr,ea]
       rfl
      ·rw[ea]
       omega
     rw[S4 c2] at hok
     have b2 : ¬(x.1 == 2)=true:=by simpa using c2
     by_cases c3:x.1=3
     ·rw[S6 c3] at hok
      simp only[S8,T0] at hok
      have b3:(x.1 == 3)=true:=by rw[c3]; rfl
      have ha:=hok.2
      unfold mo at ha
      simp only[S8,T0] at ha
      have hr1:=ha.1.1.1
      have hr2:=ha.1.1.2
      have hp1:=yy hr1
      have hp2:=yy hr2
      have ea : ∀ L,cO f (n+1) k L=jd x.2.2.2.1++58 :: jd x.2.2.2.2.1:=fun L=>by rw[hfx,S4 c1,S4 c2,S6 c3]
      refine⟨fun L=>⟨?_,?_⟩,fun L => ?_⟩
      ·rw[hI,S4 b1,S4 b2,S6 b3,iL,S6 hr1]
       simp only[S1]
       rw[show(⟨#[58]⟩:S0)=ba [58] from rfl,bz (by simp only[S3]; omega),iL,S6 hr2]
       simp only[S1]
       rw[bz (by simp only[S5,S3]; omega),ea]
       simp
      ·rw[hS,S4 b1,S4 b2,S6 b3,iM,S6 hr1]
       simp only[S1]
       rw[show(⟨#[58]⟩:S0)=ba [58] from rfl,bz (by simp only[S3]; omega),iM,S6 hr2]
       simp only[S1]
       rw[bz (by simp only[S5,S3]; omega),ea]
       simp
      ·rw[ea]
       simp only[S5,T3]
       omega
     rw[S4 c3] at hok
     have b3 : ¬(x.1 == 3)=true:=by simpa using c3
     by_cases c4:x.1=4
     ·rw[S6 c4] at hok
      simp only[S8,T0] at hok
      have b4:(x.1 == 4)=true:=by rw[c4]; rfl
      obtain⟨a,hkids⟩ : ∃ a,x.2.2.2.2.2.1=[a]:=List.length_eq_one_iff.1 (by omega)
      obtain⟨hka,sa,ha,hca⟩:=hK a (by rw[hkids]; simp)
      rw[hkids] at e q2 hI hS hfx
      have hla:=fun L=>(IH a sa ha hca).2 L
      simp only[List.reverse_singleton,eD] at e
      split at e
      ·rename_i hc
       rw[hca] at e
       simp only[S1,U3,cx_] at e
       obtain⟨rfl,_⟩:=e
       have ea : ∀ L,cO f (n+1) k L=45 :: cO f n a 5:=fun L=>by rw[hfx,S4 c1,S4 c2,S4 c3,S6 c4]; rfl
       have h5:=hla 5
       refine⟨fun L=>⟨?_,?_⟩,fun L => ?_⟩
       ·rw[hI,S4 b1,S4 b2,S4 b3,S6 b4,df (y:=a) (by decide) rfl,(hka 5).1]
        simp only[S1]
        rw[show(⟨#[45]⟩:S0)=ba [45] from rfl,bz (by simp only[S3]; omega),ea]
        rfl
       ·rw[hS,S4 b1,S4 b2,S4 b3,S6 b4,df (y:=a) (by decide) rfl,(hka 5).2]
        simp only[S1]
        rw[show(⟨#[45]⟩:S0)=ba [45] from rfl,bz (by simp only[S3]; omega),ea]
        rfl
       ·rw[ea]
        simp only[T3]
        omega
      ·cases e
     rw[S4 c4] at hok
     have b4 : ¬(x.1 == 4)=true:=by simpa using c4
     by_cases c5:x.1=5
     ·rw[S6 c5] at hok
      simp only[S8,T0] at hok
      have b5:(x.1 == 5)=true:=by rw[c5]; rfl
      obtain⟨o1,o2⟩:=bU.1 hok.1.1.1.1
      obtain⟨a,b,hkids⟩ : ∃ a b,x.2.2.2.2.2.1=[a,b]:=Q1 (by omega)
      obtain⟨hka,sa,ha,hca⟩:=hK a (by rw[hkids]; simp)
      obtain⟨hkb,sb,hb,hcb⟩:=hK b (by rw[hkids]; simp)
      rw[hkids] at e q2 hI hS hfx
      have hla:=fun L=>(IH a sa ha hca).2 L
      have hlb:=fun L=>(IH b sb hb hcb).2 L
      have hsa:=f3 f n a sa ha hca
      have hsb:=f3 f n b sb hb hcb
      simp only[List.reverse_cons,List.reverse_nil,ag_,be_,eD] at e
      split at e
      ·rename_i hc
       rw[hcb] at e
       simp only[S1] at e
       split at e
       ·rename_i hc2
        rw[hca] at e
        simp only[S1,U3,cx_] at e
        obtain⟨rfl,_⟩:=e
        have hlv:1≤cT x.2.1∧cT x.2.1≤4:=by
         unfold cT
         constructor <;> (repeat' split) <;> omega
        have ho:=yr x.2.1
        have h1:=hla (cT x.2.1)
        have h2:=hlb (cT x.2.1+1)
        have i1:=hsa.2.1
        have i2:=hsb.2.1
        have ea : ∀ L,cO f (n+1) k L=if cT x.2.1 < L then 40 :: ((cO f n a (cT x.2.1)++(dz x.2.1++cO f n b (cT x.2.1+1)))++[41]) else(cO f n a (cT x.2.1)++(dz x.2.1++cO f n b (cT x.2.1+1))):=fun L=>by rw[hfx,S4 c1,S4 c2,S4 c3,S4 c4,S6 c5]; rfl
        refine⟨fun L=>⟨?_,?_⟩,fun L => ?_⟩
        ·rw[hI,S4 b1,S4 b2,S4 b3,S4 b4,S6 b5,Eb o1 o2]
         simp only[S1]
         rw[df (y:=a) (by decide) rfl,(hka _).1]
         simp only[S1]
         rw[vi (by omega) o2]
         simp only[S1]
         rw[bz (by omega),df (y:=b) (by decide) rfl,wr (by omega) (by omega),(hkb _).1]
         simp only[S1]
         rw[bz (by simp only[S5]; omega),ea]
         by_cases hL:cT x.2.1 < L
         ·rw[aC hL,S6 hL,show(⟨#[40]⟩:S0)=ba [40] from rfl,bz (by simp only[S5,S3]; omega),show(⟨#[41]⟩:S0)=ba [41] from rfl,bz (by simp only[S5,S3]; omega)]
          simp
         ·rw[ax hL,S4 hL]
          simp
        ·rw[hS,S4 b1,S4 b2,S4 b3,S4 b4,S6 b5,sw]
         simp only[S1]
         rw[df (y:=a) (by decide) rfl,(hka _).2]
         simp only[S1]
         rw[pi (by omega) o2]
         simp only[S1]
         rw[bz (by omega),df (y:=b) (by decide) rfl,wr (by omega) (by omega),(hkb _).2]
         simp only[S1]
         rw[bz (by simp only[S5]; omega),ea]
         by_cases hL:cT x.2.1 < L
         ·rw[aC hL,S6 hL,show(⟨#[40]⟩:S0)=ba [40] from rfl,bz (by simp only[S5,S3]; omega),show(⟨#[41]⟩:S0)=ba [41] from rfl,bz (by simp only[S5,S3]; omega)]
          simp
         ·rw[ax hL,S4 hL]
          simp
        ·rw[ea]
         split <;> simp only[S5,T3,V3] <;> omega
       ·cases e
      ·cases e
     rw[S4 c5] at hok
     have b5 : ¬(x.1 == 5)=true:=by simpa using c5
     by_cases c6:x.1=6
     ·rw[S6 c6] at hok
      simp only[S8,T0] at hok
      have hargs:=hok.1.1.1
      have hkn:1≤x.2.2.2.2.2.1.length∧x.2.2.2.2.2.1.length≤10∧0≤x.2.1∧x.2.1≤10:=by
       unfold qM at hargs
       split at hargs
       ·simp only[Bool.or_eq_true,T0] at hargs
        omega
       ·split at hargs
        ·rename_i hi
         have:=bU.1 hi
         have:=bU.1 hargs
         omega
        ·split at hargs
         ·rename_i hi
          have:=bU.1 hi
          simp only[T0] at hargs
          omega
         ·cases hargs
      have hg:=q2 (fun kid=>(cO f n kid 1).length) (fun kid s' h'' hc=>(IH kid s' h'' hc).2 1)
      rw[List.map_reverse,List.sum_reverse] at hg
      have hfn:=Jq x.2.1
      have hcl : ∀ l:List Int,(cM (l.map fun k=>cO f n k 1)).length≤(l.map fun k=>(cO f n k 1).length).sum+l.length:=by
       intro l
       have:=Ca (l.map fun k=>cO f n k 1)
       rw[List.map_map,X6] at this
       exact this
      have hc0:=hcl x.2.2.2.2.2.1
      have ea : ∀ L,cO f (n+1) k L=eM x.2.1++40 :: (cM (x.2.2.2.2.2.1.map fun k=>cO f n k 1)++[41]):=fun L=>by rw[hfx,S4 c1,S4 c2,S4 c3,S4 c4,S4 c5]
      refine⟨fun L=>⟨?_,?_⟩,fun L => ?_⟩
      ·rw[hI,S4 b1,S4 b2,S4 b3,S4 b4,S4 b5,ea]
       exact Cb ⟨hkn.2.2.1,hkn.2.2.2⟩ hkn.2.1 (fun k hk=>(hK k hk).1) (by omega) _ [] rfl
      ·rw[hS,S4 b1,S4 b2,S4 b3,S4 b4,S4 b5,GT hkn.2.2.1 hkn.2.2.2]
       simp only[S1]
       rw[show(⟨#[40]⟩:S0)=ba [40] from rfl,bz (by simp only[S3]; omega),ea]
       refine Cc hkn.2.1 (fun k hk=>(hK k hk).1) (fun pre ys hpy => ?_) hfn _ [] rfl
       have h1:=hcl pre
       have h2:(pre.map fun k=>(cO f n k 1).length).sum≤(x.2.2.2.2.2.1.map fun k=>(cO f n k 1).length).sum:=by
        rw[hpy,bq_,List.sum_append]
        omega
       have h3:=T4 T5 hpy
       rw[S5] at h3
       omega
      ·rw[ea]
       simp only[S5,T3,V3]
       omega
     ·rw[S4 c6] at hok
      cases hok
    ·cases e
  ·cases e
theorem C6 (hl:f.length≤10000000) (hs : ∀ x∈f,x.2.2.1.2.2.1.size≤9223372036854775807) (hk : ∀ x∈f,x.2.2.2.2.2.1.length≤10000000) : ∃ t:af,qn f=some ((ba t,()),())∧qg f=some ((ba t,()),())∧t.length≤200:=by
 rw[BI,Bu,oE hl hs hk,v8 hl hs hk]
 simp only[S1]
 cases ho:oS f with
 | false=>exact⟨[],rfl,rfl,by simp⟩
 | true =>
  simp only[V6,S9,U6]
  have ho':=ho
  unfold oS at ho'
  rw[S8] at ho'
  have hlen:=bU.1 ho'.1
  have ht:=ho'.2
  unfold tN at ht
  cases hc:ee f f.length ((f.length:Int) - 1) with
  | none=>rw[hc] at ht; cases ht
  | some p =>
   obtain⟨h1,h2⟩:=Jr (by omega) f.length ((f.length:Int) - 1) p.1 p.2 hc
   rw[wr (by omega) (by omega),(h1 1).1,(h1 0).2,G5]
   simp only[S1,aN]
   by_cases hb:(cO f f.length ((f.length:Int) - 1) 1).length > 200
   ·rw[aC (by omega)]
    exact⟨[],rfl,rfl,by simp⟩
   ·rw[ax (by omega)]
    exact⟨_,rfl,rfl,by omega⟩
end
def jf (d:af):Bool:=d.all da && decide (bu 0 d≤1000000000000000)
theorem M9 {d:af} (hne:d≠[]) (h:d.length=1∨d.head? ≠ some 48):gW d=d.all da:=by
 have hl:=bs_.2 hne
 unfold gW
 rw[U2 (show 1≤d.length by omega),cy_]
 rcases h with h | h
 ·rw[U2 h]; simp
 ·rw[U9 h]; simp
theorem Na {d:af} (hne:d≠[]) (h:d.length=1∨d.head? ≠ some 48):(cm d 16 && decide (bu 0 d≤1000000000000000))=jf d:=by
 unfold cm jf
 rw[M9 hne h]
 cases ha:d.all da with
 | false=>simp
 | true =>
  simp only[W6]
  by_cases hv:bu 0 d≤1000000000000000
  ·have hd:=(Jh d (by rw[M9 hne h]; exact ha)).1
   have:=K4 hv
   rw[hd] at this
   rw[U2 this]
   rfl
  ·rw[U9 hv,Bool.and_false]
theorem RR {d:af} (h:cm d 16=true):bu 0 d < 10000000000000000:=by
 unfold cm gW at h
 simp only[S8,T0] at h
 have:=yo d 0 h.1.1.1
 have h2:10 ^ d.length≤10 ^ 16:=Nat.pow_le_pow_right (by decide) h.2
 omega
theorem Q2 (n:Int):bm (vN n)=cl n (-1000000000000000) 1000000000000000:=by
 unfold bm vN
 simp
def qV (b:Bool) (n:Nat):Int:=if b=true then -(n:Int) else n
theorem G6 {b:Bool} {n:Nat}:bm (vN (qV b n))=decide (n≤1000000000000000):=by
 rw[Q2]
 unfold qV cl
 rw[Y7,T0,T0]
 cases b <;> simp <;> omega
theorem Nb {d:af} {b:Bool}:((cz (ba d) 16).bind fun z4=>(if b=true then(if z4.1.2.1=true then((fG (1,(IntKind.i64.wrap (0 - z4.1.1)),(⟨#[]⟩:S0),())).bind fun z5=>(some (((1,(IntKind.i64.wrap (0 - z4.1.1)),(⟨#[]⟩:S0),()),z5.1.1,()),(())))) else(some (((1,(IntKind.i64.wrap (0 - z4.1.1)),(⟨#[]⟩:S0),()),false,()),(())))) else(if z4.1.2.1=true then((fG (1,z4.1.1,(⟨#[]⟩:S0),())).bind fun z6=>(some (((1,z4.1.1,(⟨#[]⟩:S0),()),z6.1.1,()),(())))) else(some (((1,z4.1.1,(⟨#[]⟩:S0),()),false,()),(()))))))
  = (some ((vN (qV b (if cm d 16=true then bu 0 d else 0)),(cm d 16 && decide (bu 0 d≤1000000000000000)),()),()):Option ((aI×Bool×Unit)×Unit)):=by
 have e:=xC d (m:=16) (by decide)
 have e:cz (ba d) 16=_:=e
 rw[e]
 simp only[S1]
 cases hr:cm d 16 with
 | false=>cases b <;> rfl
 | true =>
  have hlt:=RR hr
  simp only[V4,W6]
  cases b with
  | true =>
   simp only[V4]
   rw[wr (by omega) (by omega)]
   have ev:((1,0 - ((bu 0 d:Nat):Int),(⟨#[]⟩:S0),()):aI)=vN (qV true (bu 0 d)):=by
    unfold vN qV
    rw[S6 rfl,show(0:Int) - ((bu 0 d:Nat):Int) = -((bu 0 d:Nat):Int) by omega]
   rw[ev,kz (by show eS.size≤_; decide),G6]
   rfl
  | false =>
   simp only[S9,U6]
   have ev:((1,((bu 0 d:Nat):Int),(⟨#[]⟩:S0),()):aI)=vN (qV false (bu 0 d)):=rfl
   rw[ev,kz (by show eS.size≤_; decide),G6]
   rfl
theorem Li {b:Bool} : ∀(d:af),d≠[]→d.length≤9223372036854775807 → ∃ v:aI,gQ (ba d) b 0 0 (⟨#[]⟩:S0)=some ((v,jf d,()),())∧(jf d=true→v=vN (qV b (bu 0 d)))
 | [],h,_=>V2 rfl h
 | c :: l,h,hl=>by
  have gb:(c :: l:af).length=1∨(c :: l:af).head? ≠ some 48 → ∃ v:aI,(some ((vN (qV b (if cm (c :: l) 16=true then bu 0 (c :: l) else 0)),(cm (c :: l) 16 && decide (bu 0 (c :: l)≤1000000000000000)),()),()):Option ((aI×Bool×Unit)×Unit))=some ((v,jf (c :: l),()),())∧(jf (c :: l)=true→v=vN (qV b (bu 0 (c :: l)))):=by
   intro hc
   rw[Na h hc]
   refine⟨_,rfl,fun ho => ?_⟩
   rw[←Na h hc,S8] at ho
   rw[S6 ho.1]
  rw[BK,aN]
  by_cases h1:1 < (c :: l:af).length
  ·rw[aC (by omega),qO,CX c 48 (n:=48) rfl]
   by_cases h48:c=48
   ·subst h48
    rw[aC rfl,show(1:Int)=((1:Nat):Int) from rfl,fj (by simp)]
    simp only[X5,Z7]
    have hne:l≠[]:=by
     rintro rfl
     simp at h1
    have hll:l.length≤9223372036854775807:=by rw[T3] at hl; omega
    obtain⟨v,e1,e2⟩:=Li (b:=b) l hne hll
    have eo:jf (48 :: l)=jf l:=by
     unfold jf
     rfl
    rw[eo]
    exact⟨v,e1,e2⟩
   ·rw[ax h48,Nb]
    exact gb (.inr (by simpa using h48))
  ·rw[ax (by omega),Nb]
   exact gb (.inl (by simp only[T3] at h1 ⊢; omega))
def Nc (w:af):Bool:=decide (w.head? = some 45)
def gA (w:af):af:=if w.head? = some 45 then w.drop 1 else w
def kR (w:af):Bool:=decide (gA w≠[]) && jf (gA w)
def nd (w:af):Int:=qV (Nc w) (bu 0 (gA w))
theorem G7 {w:af} (hw:w≠[]) (hl:w.length≤9223372036854775807) : ∃ v:aI,xa (ba w)=some ((v,kR w,()),())∧(kR w=true→v=vN (nd w)):=by
 cases w with
 | nil=>exact V2 rfl hw
 | cons c l =>
  rw[Gl,aN,aC (by simp),qO,CX c 45 (n:=45) rfl]
  by_cases hc:c=45
  ·subst hc
   have hm:gA (45 :: l)=l:=rfl
   have hg:Nc (45 :: l)=true:=rfl
   have e0:(S2 (ba l) == S2 (⟨#[]⟩:S0))=decide (l=[]):=di (b:=[])
   rw[aC rfl,show(1:Int)=((1:Nat):Int) from rfl,fj (by simp)]
   simp only[X5,Z7]
   rw[e0]
   unfold kR nd
   rw[hm,hg]
   by_cases hn:l=[]
   ·rw[aC hn]
    subst hn
    exact⟨_,rfl,fun h=>by cases h⟩
   ·rw[ax hn]
    obtain⟨v,e1,e2⟩:=Li (b:=true) l hn (by rw[T3] at hl; omega)
    refine⟨v,?_,fun h => ?_⟩
    ·simpa[hn] using e1
    ·rw[S8] at h
     exact e2 h.2
  ·have hm:gA (c :: l)=c :: l:=S4 (by simpa using hc)
   have hg:Nc (c :: l)=false:=U9 (by simpa using hc)
   have e0:(S2 (ba (c :: l)) == S2 (⟨#[]⟩:S0))=decide (c :: l=[]):=di (b:=[])
   rw[ax hc,e0,ax (by simp)]
   unfold kR nd
   rw[hm,hg]
   obtain⟨v,e1,e2⟩:=Li (b:=false) (c :: l) (by simp) hl
   refine⟨v,?_,fun h => ?_⟩
   ·simpa[hc] using e1
   ·rw[S8] at h
    exact e2 h.2
theorem Q3:(fun c=>([48,49,50,51,52,53,54,55,56,57]:af).contains c)=da:=funext fun c=>Ac (p:=fun c=>([48,49,50,51,52,53,54,55,56,57]:af).contains c=da c) (by decide +kernel) c
theorem vq {p:UInt8→Bool} : ∀ {l:af} {x:UInt8} {t:af},l.dropWhile p=x :: t→p x=false
 | c :: l,x,t,h=>by
  cases hc:p c with
  | true =>
   rw[ci_ hc] at h
   exact vq h
  | false =>
   rw[Z4 (by rw[hc]; decide)] at h
   cases h
   exact hc
theorem jC {p:UInt8→Bool} : ∀ {l:af},l.dropWhile p=[]↔l.all p=true
 | []=>by simp
 | c :: l=>by
  cases hc:p c with
  | true=>rw[ci_ hc,jC]; simp[hc]
  | false=>rw[Z4 (by rw[hc]; decide)]; simp[hc]
theorem OQ (d:af):(Lib.trimS d [48,49,50,51,52,53,54,55,56,57]=[])↔d.all da=true:=by
 unfold Lib.trimS Lib.trimLeftS Lib.trimRightS
 rw[Q3,jC]
 constructor
 ·intro h
  cases hr:d.reverse.dropWhile da with
  | nil =>
   rw[jC] at hr
   simpa using hr
  | cons x t =>
   have hx:=vq hr
   rw[hr] at h
   simp only[List.all_reverse,an_,S8] at h
   rw[hx] at h
   cases h.1
 ·intro h
  have:d.reverse.dropWhile da=[]:=jC.2 (by simpa using h)
  rw[this]
  rfl
theorem G8 {w:af} (hl:w.length≤1000000):xe (ba w)=some (((decide (gA w≠[]) && (gA w).all da),()),()):=by
 have hp:ju (ba w) (⟨#[45]⟩:S0)=some ((ba (gA w),()),()):=by
  rw[tz,pe,show(⟨#[45]⟩:S0)=ba [45] from rfl,so _ _ (by omega)]
  simp only[S1,Aa]
  unfold gA
  by_cases h:w.head? = some 45
  ·obtain⟨t,rfl⟩:=ib h
   rw[aC h,S6 h,aN,fj (by simp)]
   rfl
  ·rw[ax h,S4 h]
   rfl
 rw[Gx,hp]
 simp only[S1]
 have e0 : ∀ x:af,(S2 (ba x) == S2 (⟨#[]⟩:S0))=decide (x=[]):=fun x=>di (b:=[])
 have hm:(gA w).length≤w.length:=by
  unfold gA
  split <;> simp
 rw[e0]
 by_cases hn:gA w=[]
 ·simp[hn]
 ·have ht:jv (ba (gA w)) (⟨#[48,49,50,51,52,53,54,55,56,57]⟩:S0)=some ((ba (Lib.trimS (gA w) [48,49,50,51,52,53,54,55,56,57]),()),()):=by
   rw[ry]
   show(if nV (ba [48,49,50,51,52,53,54,55,56,57])=true∧(ba (gA w)).size≤9223372036854775807 then some (((⟨(Lib.trimS (lb (ba (gA w))) (lb (ba [48,49,50,51,52,53,54,55,56,57]))).toArray⟩:S0),()),()) else none)=_
   rw[S6 ⟨by decide +kernel,by rw[aN]; omega⟩,dq,dq]
  rw[ht]
  simp only[S1,hn,Z0,W0,V4,e0,ne_eq,not_false_eq_true,Y2,W6]
  congr 3
  rw[Y7,T0]
  exact OQ _
theorem G9 : ∀(l:af) (a u:Nat),l.all da=true→bw_ 18446744073709551615 a l = .ok u→u=bu a l
 | [],a,u,_,h=>by
  cases h
  rfl
 | c :: l,a,u,h,hp=>by
  simp only[an_,S8] at h
  have hd:48≤c.toNat∧c.toNat≤57:=by simpa[da] using h.1
  unfold bw_ at hp
  rw[S6 hd] at hp
  split at hp
  ·cases hp
  ·split at hp
   ·cases hp
   ·exact G9 l _ u h.2 hp
theorem Ek {w:af} (hne:gA w≠[]) (hd:(gA w).all da=true) (h:(b7 w).2=true):(b7 w).1=nd w:=by
 unfold b7 at h ⊢
 cases hp:as_ 64 w with
 | range=>rw[hp] at h; cases h
 | ok v =>
  simp only
  cases w with
  | nil=>exact V2 rfl hne
  | cons c l =>
   unfold as_ at hp
   simp only at hp
   unfold nd
   by_cases hc:c=45
   ·subst hc
    have hm:gA (45 :: l)=l:=rfl
    have hg:Nc (45 :: l)=true:=rfl
    rw[hm] at hne hd
    have h45:(45:UInt8).toNat=45:=rfl
    rw[S6 (.inr h45)] at hp
    unfold dj_ at hp
    rw[S4 hne] at hp
    cases hu:bw_ (2 ^ 64 - 1) 0 l with
    | range=>rw[hu] at hp; cases hp
    | ok u =>
     rw[hu] at hp
     have:=G9 l 0 u hd hu
     simp only at hp
     split at hp
     ·cases hp
     ·split at hp
      ·cases hp
      ·cases hp
       rw[hm,hg,this]
       rfl
    | _=>rw[hu] at hp; cases hp
   ·have hm:gA (c :: l)=c :: l:=S4 (by simpa using hc)
    have hg:Nc (c :: l)=false:=U9 (by simpa using hc)
    rw[hm] at hd
    have hcd:48≤c.toNat∧c.toNat≤57:=by
     simp only[an_,S8] at hd
     simpa[da] using hd.1
    rw[S4 (by omega)] at hp
    unfold dj_ at hp
    rw[S4 (by simp)] at hp
    cases hu:bw_ (2 ^ 64 - 1) 0 (c :: l) with
    | range=>rw[hu] at hp; cases hp
    | ok u =>
     rw[hu] at hp
     have:=G9 (c :: l) 0 u hd hu
     simp only at hp
     split at hp
     ·cases hp
     ·split at hp
      ·cases hp
      ·rw[S4 (by omega)] at hp
       cases hp
       rw[hm,hg,this]
       rfl
    | _=>rw[hu] at hp; cases hp
 | _=>rw[hp] at h; cases h
theorem IK {w:af} (h:kR w=true):b7 w=(nd w,true):=by
 unfold kR jf at h
 simp only[S8,T0] at h
 obtain⟨hne,hd,hv⟩:=h
 have hp2:(b7 w).2=true:=by
  cases w with
  | nil=>exact V2 rfl hne
  | cons c l =>
   by_cases hc:c=45
   ·subst hc
    have hm:gA (45 :: l)=l:=rfl
    rw[hm] at hne hd hv
    have h45:(45:UInt8).toNat=45:=rfl
    have hu:bw_ (2 ^ 64 - 1) 0 l = .ok (bu 0 l):=Fh l 0 hd (by omega)
    have:as_ 64 (45 :: l) = .ok (-((bu 0 l:Nat):Int)):=by
     unfold as_
     simp only
     rw[S6 (.inr h45)]
     unfold dj_
     rw[S4 hne,hu]
     simp only
     rw[S4 (by omega),S4 (by omega)]
     rfl
    unfold b7
    rw[this]
   ·have hm:gA (c :: l)=c :: l:=S4 (by simpa using hc)
    rw[hm] at hd hv
    have hcd:48≤c.toNat∧c.toNat≤57:=by
     have hd':=hd
     simp only[an_,S8] at hd'
     simpa[da] using hd'.1
    have hu:bw_ (2 ^ 64 - 1) 0 (c :: l) = .ok (bu 0 (c :: l)):=Fh (c :: l) 0 hd (by omega)
    have:as_ 64 (c :: l) = .ok ((bu 0 (c :: l):Nat):Int):=by
     unfold as_
     simp only
     rw[S4 (by omega)]
     unfold dj_
     rw[S4 (by simp),hu]
     simp only
     rw[S4 (by omega),S4 (by omega),S4 (by omega)]
    unfold b7
    rw[this]
 exact Prod.ext (Ek hne hd hp2) hp2
theorem Q4 {w:af} (h:kR w=false) (h1:(b7 w).2=true) (h2:(decide (gA w≠[]) && (gA w).all da)=true):bm (vN (b7 w).1)=false:=by
 simp only[S8,T0] at h2
 rw[Ek h2.1 h2.2 h1]
 unfold nd
 rw[G6]
 unfold kR jf at h
 rw[U2 h2.1,h2.2] at h
 simpa using h
theorem Lj {w:af} (h:kR w=true) : -1000000000000000≤nd w∧nd w≤1000000000000000:=by
 unfold kR jf at h
 simp only[S8,T0] at h
 unfold nd qV
 split <;> omega
theorem vt {x:S0} (hx:x.size≤9223372036854775807) : ∃(t:af) (b:Bool),uS x=some ((ba t,b,()),())∧qh x=some ((ba t,b,()),())∧t.length≤200:=by
 obtain⟨w,rfl⟩ : ∃ s,x=ba s:=⟨lb x,(jc x).symm⟩
 rw[Iu,Ig,sk hx,vd hx]
 simp only[S1]
 have e0 : ∀ x:af,(S2 (ba x) == S2 (⟨#[]⟩:S0))=decide (x=[]):=fun x=>di (b:=[])
 rw[e0]
 cases hp:(plain (ba w) && decide (((ba w).size:Int)≤200)) with
 | false =>
  have hw:w≠[]:=by
   rintro rfl
   exact V2 hp (by decide)
  rw[U9 hw]
  exact⟨[],false,rfl,rfl,by simp⟩
 | true =>
  have hp':=hp
  rw[S8,T0,aN] at hp'
  have hl:w.length≤200:=by omega
  simp only[V6,S9,U6]
  by_cases hw:w=[]
  ·subst hw
   exact⟨[],true,rfl,rfl,by simp⟩
  ·rw[ax hw,ax hw]
   have hcut:cu (ba w) (⟨#[61]⟩:S0)=_:=rJ w [61] (by omega)
   rw[hcut]
   simp only[S1,Aa]
   cases w with
   | nil=>exact V2 rfl hw
   | cons c l =>
    rw[qO,CX c 61 (n:=61) rfl]
    by_cases hc:c=61
    ·subst hc
     have hll:l.length≤200:=by rw[T3] at hl; omega
     simp only[ah_,Y2,V4,S3,X5,Z7]
     rw[show(1:Int)=((1:Nat):Int) from rfl,fj (by simp)]
     simp only[X5,Z7]
     obtain⟨f,b,r1,r2,r3,r4⟩:=RQ (x:=ba l) (by rw[aN]; omega)
     rw[r1,r2]
     simp only[S1]
     have hsm:f.length≤10000000∧(∀ x∈f,x.2.2.1.2.2.1.size≤9223372036854775807) ∧ ∀ x∈f,x.2.2.2.2.2.1.length≤10000000:=by
      cases b with
      | false=>rw[r4 rfl]; simp
      | true =>
       have ho:=r3 rfl
       have hs:cX f=true:=by
        unfold cX
        rw[Z2]
        intro y hy
        obtain⟨i,hi⟩:=do_ hy
        exact(vg ho i y hi).1
       have ho':=ho
       unfold oS at ho'
       rw[S8] at ho'
       have:=bU.1 ho'.1
       exact⟨by omega,Le (vn hs),Lf (vn hs)⟩
     obtain⟨t,t1,t2,t3⟩:=C6 hsm.1 hsm.2.1 hsm.2.2
     rw[t2,Gw,t1]
     simp only[S1]
     rw[show(⟨#[61]⟩:S0)=ba [61] from rfl,bz (by simp only[S3]; omega),e0,aN]
     cases b with
     | false =>
      simp only[W0,V4]
      refine⟨[],false,?_,rfl,by simp⟩
      by_cases ht:t=[] <;> simp[ht]
     | true =>
      simp only[V6,S9,U6]
      by_cases ht:t=[]
      ·refine⟨[],false,?_,?_,by simp⟩ <;> simp[ht]
      ·rw[wr (by omega) (by omega)]
       by_cases h2:t.length < 200
       ·refine⟨61 :: t,true,?_,?_,by rw[T3]; omega⟩
        ·rw[U9 ht,U2 (show(t.length:Int) < 200 by omega)]
         rfl
        ·rw[ax ht,ax (by omega),bz (by simp only[S3]; omega)]
         rfl
       ·refine⟨[],false,?_,?_,by simp⟩
        ·rw[U9 ht,U9 (show ¬(t.length:Int) < 200 by omega)]
         rfl
        ·rw[ax ht,aC (by omega)]
    ·have hnc : ¬(some c=some (61:UInt8)):=by simpa using hc
     simp only[ah_,hnc,Z0,S9,U6,hc]
     generalize hwd:(c :: l:af)=w at *
     have hsz:(ba w).size=w.length:=aN w
     rw[sr (by omega)]
     obtain⟨v,n1,n2⟩:=G7 hw (by omega)
     rw[n1,G8 (by omega),oG (by omega),wb (by omega)]
     simp only[S1,BL]
     rw[sn (by show eS.size≤_; decide)]
     simp only[S1]
     have tail : ∃(t:af) (b:Bool),(if(bP w).2=true then(some ((ba w,true,()),(())):Option ((S0×Bool×Unit)×Unit)) else(if((U1 (ba w):Int) == 200)=true then(some (((⟨#[]⟩:S0),false,()),(()))) else(cats (⟨#[39]⟩:S0) (ba w) fun y2=>(some ((y2,true,()),(()))))))=some ((ba t,b,()),())
       ∧ (if(!(bP w).2)=true then((gf (2,0,ba w,())).bind fun z7=>(if(decide ((U1 z7.1.1:Int) > 200))=true then(some (((⟨#[]⟩:S0),false,()),(()))) else(some ((z7.1.1,true,()),(()))))) else((gf (bP w).1).bind fun z8=>(if(decide ((U1 z8.1.1:Int) > 200))=true then(some (((⟨#[]⟩:S0),false,()),(()))) else(some ((z8.1.1,true,()),(()))))))=some ((ba t,b,()),())∧t.length≤200:=by
      cases hr:(bP w).2 with
      | true =>
       obtain⟨k1,k2⟩:=qS hr
       refine⟨w,true,rfl,?_,hl⟩
       simp only[V6,S9,U6]
       rw[kO (rG k1),S6 k1,k2]
       simp only[S1]
       rw[ax (by rw[hsz]; omega)]
      | false =>
       simp only[W0,S9,U6,V4]
       have hov:bm (2,0,ba w,())=true:=by
        unfold bm
        rw[S6 rfl]
        simp only[Y2,W6]
        exact hp
       have htx:dy (2,0,ba w,())=ba (39 :: w):=by
        show(⟨#[39]⟩:S0)++ba w=_
        rw[show(⟨#[39]⟩:S0)=ba [39] from rfl,og]
        rfl
       rw[kO (rG hov),S6 hov,htx,KZ (by omega),show(⟨#[39]⟩:S0)=ba [39] from rfl,og]
       simp only[S1,aN,T3]
       by_cases h2:w.length=200
       ·rw[S6 (by simp[h2]),aC (by omega)]
        exact⟨[],false,rfl,rfl,by simp⟩
       ·rw[S4 (by simp only[beq_iff_eq]; omega),ax (by omega)]
        exact⟨39 :: w,true,rfl,rfl,by rw[T3]; omega⟩
     cases ho:kR w with
     | true =>
      have hpv:=IK ho
      have hrg:=Lj ho
      have hdg:(decide (gA w≠[]) && (gA w).all da)=true:=by
       unfold kR jf at ho
       simp only[S8] at ho ⊢
       exact⟨ho.1,ho.2.1⟩
      have hok:bm (vN (nd w))=true:=by
       rw[Q2]
       exact bU.2 hrg
      have hit:=dR (n:=nd w) (by omega) (by omega)
      rw[n2 ho,hpv,hdg]
      simp only[V4,hok]
      rw[gy (by omega) (by omega),kO (rG hok),S6 hok]
      refine⟨lb (d8 (nd w)),true,?_,?_,by rw[yn]; omega⟩
      ·rw[jc]; rfl
      ·rw[jc]; rfl
     | false =>
      obtain⟨t,b,s1,s2,s3⟩:=tail
      refine⟨t,b,?_,?_,s3⟩
      ·cases h1:(b7 w).2 with
       | false=>simpa using s1
       | true =>
        cases h2:(decide (gA w≠[]) && (gA w).all da) with
        | false=>simpa using s1
        | true =>
         rw[Q4 ho h1 h2]
         simpa using s1
      ·simpa using s2
noncomputable def fW (x:S0):S0×Bool:=if h:x.size≤9223372036854775807 then(ba (vt h).choose,(vt h).choose_spec.choose) else(eS,false)
theorem Cd {x:S0} (h:x.size≤9223372036854775807):uS x=some (((fW x).1,(fW x).2,()),())∧qh x=some (((fW x).1,(fW x).2,()),())∧(fW x).1.size≤200:=by
 have hs:=(vt h).choose_spec.choose_spec
 unfold fW
 rw[dif_pos h]
 exact⟨hs.1,hs.2.1,by rw[aN]; exact hs.2.2⟩
noncomputable def jg (x:S0):Bool:=(fW x).2 && !decide (x=eS) && decide ((fW x).1=x)
theorem xI {x:S0} (h:x.size≤9223372036854775807):rt x=some ((jg x,()),()):=by
 rw[Gy,(Cd h).1]
 simp only[S1,j0]
 unfold jg
 cases (fW x).2 <;> by_cases hx:x=eS <;> simp[hx]
def bv (a b:aA):Bool:=decide (a.2.1 < b.2.1) || (decide (a.2.1=b.2.1) && decide (a.1 < b.1))
theorem sy (a b:aA):gw a b=some ((bv a b,()),()):=by
 rw[Ih]
 unfold bv
 by_cases h1:a.2.1 < b.2.1
 ·simp[h1]
 ·by_cases h2:a.2.1=b.2.1 <;> simp[h1,h2]
theorem Ce (a b:aA) : ∃ k:Int,qk a b=some ((k,()),())∧(k < 0↔bv a b=true):=by
 rw[Bz,D4,D4]
 simp only[S1]
 rw[Ow (by simp)]
 refine⟨_,rfl,?_⟩
 unfold bv
 by_cases h1:a.2.1 < b.2.1
 ·simp[zY,h1]
 ·by_cases h2:b.2.1 < a.2.1
  ·have h3 : ¬a.2.1=b.2.1:=by omega
   simp[zY,h1,h2,h3]
  ·have h3:a.2.1=b.2.1:=by omega
   by_cases h4:a.1 < b.1
   ·simp[zY,h1,h2,h3,h4]
   ·by_cases h5:b.1 < a.1
    ·simp[zY,h1,h2,h3,h4,h5]
    ·simp[zY,h1,h2,h3,h4,h5]
noncomputable def xJ:Option ac→List ac→Bool
 | _,[]=>true
 | o,c :: l=>bT c.1 && jg c.2.1 && (match o with | none=>true | some p=>bv p.1 c.1) && xJ (some c) l
noncomputable def bi (s:List ac):Bool:=xJ none s && decide (s.length≤120)
section
variable {s:List ac} (hs : ∀ c∈s,c.2.1.size≤9223372036854775807) (hl:s.length≤1000000000)
include hs hl
theorem wd : ∀(ys pre:List ac),s=pre++ys→kw s s (s.length:Int) (pre.length:Int)=some ((xJ pre.getLast? ys && decide (s.length≤120),()),())
 | [],pre,h=>by
  rw[tI,ax (bQ h)]
  simp only[xJ,W6]
  congr 3
  rw[Y7,T0,T0]
  omega
 | y :: ys,pre,h=>by
  have hy:=hs y (by rw[h]; simp)
  have ih:=wd ys (pre++[y]) (aM h)
  rw[dp_] at ih
  simp only[cw_,Option.or_some,Option.some_or] at ih
  rw[tI,aC (bq h),bk h,rF]
  simp only[S1,xJ]
  cases hr:bT y.1 with
  | false=>simp
  | true =>
   simp only[V6,S9,U6,W6]
   rcases cd_ pre with hp | ⟨q,z,hp⟩
   ·subst hp
    rw[ax (by simp),xI hy]
    simp only[S1,List.getLast?_nil,cy_]
    cases jg y.2.1 with
    | false=>simp
    | true =>
     simp only[V6,S9,U6,W6]
     rw[aL (pre:=[]) h (by omega)]
     exact ih
   ·rw[di_] at hp
    subst hp
    have hz:s=q++z :: (y :: ys):=by rw[h]; simp
    have hql:((q++[z]).length:Int) - 1=(q.length:Int):=by simp
    have hqs:q.length < s.length:=by rw[hz]; simp
    rw[aC (by simp),hql,wr (by omega) (by omega),bk hz]
    obtain⟨k,k1,k2⟩:=Ce z.1 y.1
    rw[k1]
    simp only[S1,dp_,cw_,Option.some_or]
    by_cases hk:k < 0
    ·rw[ax (by omega),xI hy,k2.1 hk]
     simp only[S1,cy_]
     cases jg y.2.1 with
     | false=>simp
     | true =>
      simp only[V6,S9,U6,W6]
      rw[aL h (by omega)]
      exact ih
    ·have:bv z.1 y.1=false:=by
      rw[Bool.eq_false_iff]
      exact fun e=>hk (k2.2 e)
     rw[aC (by omega),this]
     simp
theorem sA:qo s=some ((bi s,()),()):=by
 rw[Iv]
 exact wd hs hl s [] rfl
end
theorem Ll {x:S0}:jg x=((fW x).2 && !decide (x=eS) && decide ((fW x).1=x)):=rfl
section
variable {s:List ac} (hs : ∀ c∈s,c.2.1.size≤9223372036854775807) (hl:s.length≤1000000000000)
include hs hl
theorem we : ∀(ys pre:List ac),s=pre++ys→kv s (pre.length:Int)=some ((xJ pre.getLast? ys,()),())
 | [],pre,h=>by
  rw[tE,ax (bQ h)]
  simp only[xJ]
 | y :: ys,pre,h=>by
  have hy:=hs y (by rw[h]; simp)
  have ih:=we ys (pre++[y]) (aM h)
  rw[dp_] at ih
  simp only[cw_,Option.or_some,Option.some_or] at ih
  rw[tE,aC (bq h),bk h,(Cd hy).2.1]
  simp only[S1]
  rw[bk h,lB]
  simp only[S1,xJ,bk h,j0,Ll]
  cases hr:bT y.1 with
  | false=>simp
  | true =>
   cases hi:(fW y.2.1).2 with
   | false=>simp
   | true =>
    by_cases he:y.2.1=eS
    ·simp[he]
    ·by_cases hq:(fW y.2.1).1=y.2.1
     ·rcases cd_ pre with hp | ⟨q,z,hp⟩
      ·subst hp
       rw[aL (pre:=[]) h (by omega)]
       simp[he,hq]
       exact ih
      ·rw[di_] at hp
       subst hp
       have hz:s=q++z :: (y :: ys):=by rw[h]; simp
       have hql:((q++[z]).length:Int) - 1=(q.length:Int):=by simp
       have hqs:q.length < s.length:=by rw[hz]; simp
       rw[hql,wr (by omega) (by omega),bk hz,sy,aL h (by omega)]
       simp only[S1,dp_,cw_,Option.some_or]
       rw[ih]
       cases ha:bv z.1 y.1 <;> simp[he,hq]
     ·simp[he,hq]
theorem eE:fH s=some ((bi s,()),()):=by
 rw[Ii]
 by_cases h:s.length≤120
 ·rw[ax (by simp; omega)]
  have:=we hs hl s [] rfl
  simp only[V3,Int.ofNat_zero,List.getLast?_nil] at this
  rw[this]
  simp[bi,h]
 ·rw[aC (by simp; omega)]
  simp[bi,h]
end
theorem Ak {a b:aA}:(bV cK a b=true)=(a=b):=propext (lA rfl)
noncomputable def aH (r:aA):List ac→S0
 | []=>eS
 | c :: cs=>if c.1=r then c.2.1 else aH r cs
theorem Cf {s:List ac} {r:aA} (hl:s.length≤1000000000000) : ∀(ys pre:List ac),s=pre++ys→uY s (pre.length:Int) r.1 r.2.1=some ((aH r ys,()),())
 | [],pre,h=>by
  rw[zg,ax (bQ h)]
  rfl
 | y :: ys,pre,h=>by
  have ih:=Cf (r:=r) hl ys (pre++[y]) (aM h)
  rw[zg,aC (bq h),bk h,aL h (by omega),ih]
  show(if bV cK y.1 r=true then _ else _)=_
  by_cases e:y.1=r
  ·rw[S6 (by rw[Ak]; exact e),bk h,aH,S6 e]
  ·rw[S4 (by rw[Ak]; exact e),aH,S4 e]
theorem OS {s:List ac} {r:aA} (hl:s.length≤1000000000000):Kd s r=some ((aH r s,()),()):=by
 rw[Ou]
 exact Cf hl s [] rfl
end Go.Proofs.YtfffplonjaigkaaGreatDoor.Abs
