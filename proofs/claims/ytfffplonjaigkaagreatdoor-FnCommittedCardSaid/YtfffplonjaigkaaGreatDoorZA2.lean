/- Stores. -/
import Derived.Test.YtfffplonjaigkaaGreatDoorZA1
import Derived.Orders
set_option linter.unusedVariables false
set_option linter.unusedSimpArgs false
set_option linter.unusedSectionVars false
open Array renaming getElem?_eq_some_iff→V8,getElem?_toList→Y6,length_toList→X4,toList_inj→ab_
open Bool renaming and_eq_true→S8,not_eq_true'→az_
open Classical renaming choose→cs_
open Go.Result renaming andThen_ok→T6
open Go.Sem renaming run_bind→U5,run_pure→V0
open Go.Value renaming ownBlock→ao_
open List renaming append_assoc→X2,append_nil→W9,cons_append→be_,drop_eq_nil_of_le→db_,eq_nil_of_length_eq_zero→W8,ext_getElem?→cj_,flatten_cons→ar_,getElem?_cons_zero→Y0,getElem?_eq_getElem→T9,getElem?_eq_none→Z5,getElem?_eq_some_iff→U0,getElem?_take→bz_,getElem?_toArray→av_,getElem_append_left→bn_,getElem_append_right→bl_,getElem_mem→bf_,getElem_of_mem→Z9,getElem_replicate→dc_,getElem_take→df_,length_append→S5,length_cons→T3,length_replicate→cb_,length_set→bo_,length_take→Y9,map_cons→Y4,mem_append_left→ap_,mem_append→W1,mem_cons_of_mem→T8,mem_cons→U7,mem_map→Z1,mem_of_getElem?→W4,mem_singleton→U4,nil_append→ag_,nodup_cons→bp_,replicate→W3,size_toArray→dg_
open Nat renaming add_zero→au_,beq→Y3,div_lt_of_lt_mul→dn_,eq_of_beq_eq_true→W2,le_mul_of_pos_right→dx_,le_of_ble_eq_true→aw_,le_refl→T7,le_trans→W7,lt_of_lt_of_le→X1,mul_comm→ca_,mul_le_mul_right→ae_,succ_mul→cp_,zero_add→Y5,zero_le→aa_
open Option renaming bind_eq_some_iff→S7,bind_some→S1
open Option.some renaming injEq→U3,inj→X0
open _root_ renaming absurd→V2,congrArg→T4,if_neg→S4,if_pos→S6
namespace Go.Proofs.YtfffplonjaigkaaGreatDoor.Abs
open Go Go.RowKit
section
variable {P:Program} {w:World}
theorem wz {T:TypeId} {s:Ty} {c:List Value} {b o:Nat} {arr:Array Value} {T':TypeId} (hT:eb P T s) (hl:c.length=s.sz) (hc:(mk s c).cells=c.toArray) (h1 : ∀ v∈c,v.oneCell'=true)
  (hh:w.heap[b]? = some (.cells arr T' (0,0))) (hle:o+c.length≤arr.size):(Instr.storeAt T (.pointer (some ⟨b,o,none⟩)) (mk s c)).run P w = .ok () (w.setRow b (aU arr.toList o c).toArray):=by
 simp only[Instr.storeAt,Instr.sureAddr,U5,V0,T6,storeVar,hT.sizeOf,hc]
 rw[S4 (by simp[hl])]
 have:=run_storeCells_at P b o T' c 0 arr w hh (by simpa using hle) h1
 simp only[au_] at this
 exact this
theorem eI (b:Nat) (cs:Array Value):w.grownBy (w.setRow b cs) (some b):=⟨rfl,rfl,rfl,by simp,fun k _ hk=>setRow_other w b k cs (fun e=>hk (by simp[e]))⟩
theorem mN : ∀ {css:List (List Value)} {n:Nat},(∀ c∈css,c.length=n) → ∀ {i o:Nat} {c d:List Value},css[i]? = some c→o+d.length≤n→(css.set i (aU c o d)).flatten=aU css.flatten (i*n+o) d
 | [],n,_,i,o,c,d,h,_=>by simp at h
 | c0 :: css,n,hl,0,o,c,d,h,ho=>by
  simp at h
  subst h
  have h0:c0.length=n:=hl _ (by simp)
  simp only[List.set_cons_zero,ar_,Nat.zero_mul,Y5,aU]
  rw[List.take_append_of_le_length (by omega),List.drop_append_of_le_length (by omega)]
  simp
 | c0 :: css,n,hl,i+1,o,c,d,h,ho=>by
  have h0:c0.length=n:=hl _ (by simp)
  rw[List.set_cons_succ,ar_,ar_,mN (fun c hc=>hl c (T8 _ hc)) (by simpa using h) ho]
  rw[cp_,show i*n+n+o=c0.length+(i*n+o) by omega,pL]
end
section
variable {P:Program} {E:ce} {call:(I:ap)→List SV→aB→Option (I.sh.den×I.bx.den)} {w0:World} {X:Nat→Prop} {Pr0:Nat→Nat→Prop} {sl:List SV} {get:Nat→Option aP} {γ:Nat→Option G} {Pr:Nat→Nat→Prop}
 {a:Act} {w:World} {res:aB} {r0:Nat} {o:Oper} {vs:List SV} {v:SV} {u:Up}
theorem LP {get':Nat→Option aP} {Pr':Nat→Nat→Prop} {w':World} (hI:bn w0 X Pr0 sl get' γ Pr' a w') (ho:(execOp a.eval o).run P w = .ok .skip w'):zt P w0 X Pr0 o sl get γ Pr r0 a w .undef get':=fun next Q h=>by
 unfold Oper.wp
 rw[ho]
 exact h undef γ Pr' w' .undef hI (fun _ _=>rfl)
theorem AO {get':Nat→Option aP} {γ':Nat→Option G} {Pr':Nat→Nat→Prop} {w':World} (hI:bn w0 X Pr0 sl get' γ' Pr' a w') (ho:(execOp a.eval o).run P w = .ok .skip w') (hγ : ∀ r,¬(r0≤r∧r < r0+64)→γ' r=γ r):zt P w0 X Pr0 o sl get γ Pr r0 a w .undef get':=fun next Q h=>by
 unfold Oper.wp
 rw[ho]
 exact h undef γ' Pr' w' .undef hI hγ
theorem AP : ∀ {l:List Nat} {n k:Nat},n∈l → ∃ j,cP n l k=some j
 | [],_,_,h=>by simp at h
 | x :: l,n,k,h=>by
  unfold cP
  by_cases hx:x=n
  ·subst hx
   simp
  ·have:Y3 x n=false:=by
    cases hb:Y3 x n with
    | false=>rfl
    | true=>exact V2 (W2 hb) hx
   rw[this]
   rcases U7.1 h with h | h
   ·exact V2 h.symm hx
   ·exact AP h
theorem sV {l:List Nat} {n:Nat} (h:ud l n=false):n ∉ l:=by
 intro hn
 obtain⟨j,hj⟩:=AP (k:=0) hn
 simp[ud,hj] at h
theorem I1 {L:Lk} {t:Ty} {xs:List t.den} {css:List (List Value)} {i:Nat} {y:t.den} {c:List Value} (h:hJ L t xs css) (hy:RK L t y c):hJ L t (xs.set i y) (css.set i c):=by
 refine⟨by rw[bo_,bo_,h.1],fun j hj hj' => ?_⟩
 rw[List.getElem_set,List.getElem_set]
 by_cases hij:i=j
 ·rw[S6 hij,S6 hij]
  exact hy
 ·rw[S4 hij,S4 hij]
  exact h.2 j (by rw[bo_] at hj; exact hj) (by rw[bo_] at hj'; exact hj')
theorem yM {cs c:List Value} {o k:Nat} (h:o+c.length≤k):(aU cs o c).take k=aU (cs.take k) o c:=by
 unfold aU
 apply cj_
 intro j
 simp only[bz_,X2,List.getElem?_append,Y9,List.getElem?_drop,S5]
 by_cases h1:j < k
 ·rw[S6 h1]
  have e1:min o (min k cs.length)=min o cs.length:=by omega
  rw[e1]
  by_cases h2:j < min o cs.length
  ·rw[S6 h2,S6 h2,S6 (by omega),S6 (by omega),S6 h1]
  ·rw[S4 h2,S4 h2]
   by_cases h3:j - min o cs.length < c.length
   ·rw[S6 h3,S6 h3]
   ·rw[S4 h3,S4 h3]
    by_cases h4:o+c.length+(j - min o cs.length - c.length) < k
    ·rw[S6 h4]
    ·rw[S4 h4]
     apply Z5
     omega
 ·rw[S4 h1]
  by_cases h2:j < min o (min k cs.length)
  ·omega
  ·rw[S4 h2]
   by_cases h3:j - min o (min k cs.length) < c.length
   ·omega
   ·rw[S4 h3,S4 (by omega)]
theorem N0 {L:Lk} {γ:Nat→Option G} {p:List Nat} {b:Nat} {T:TypeId} {t:Ty} {v u z:SV} {cs:List Value} {o:Nat} {s:Ty} {c:List Value} (hwf:cJ false t=true) (hv:kE L γ b T t v cs) (ho:dj t p=some (o,s)) (hu:RT L γ s u c) (h:JV t p v u=some z) :
  RT L γ t z (aU cs o c)∧o+c.length≤cs.length:=by
 unfold JV at h
 split at h
 ·cases h
 ·rename_i hb
  rcases hv.2 with h5 | ⟨hbl,l,hcs,h5⟩
  ·exact wy hwf h5 ho hu h
  ·subst hcs
   rw[hbl] at hb
   cases p with
   | nil =>
    obtain⟨h1,h2⟩:=wy hwf h5 ho hu h
    have e:(0,t)=(o,s):=by cases t <;> simpa[dj] using ho
    cases e
    have k1:=d9 h5
    have k2:=d9 hu
    simp only[T3] at k1
    have e1 : ∀ x:Value,aU (x :: l) 0 c=c:=fun x=>by
     simp only[aU,List.take_zero,ag_,Y5]
     rw[db_ (by rw[T3]; omega),W9]
    rw[e1] at h1 ⊢
    exact⟨h1,by rw[T3]; omega⟩
   | cons f p=>cases hb
theorem N1 (H:dP P E call w0 X Pr0 sl get γ Pr a w res r0 o vs v u) {T:TypeId} {i j:Operand} (hop:o.op = .store T i j):eH P w0 X Pr0 sl get γ Pr a w r0 o v u:=by
 obtain⟨hE,hI,hk,hfr,hv,hc⟩:=H
 rw[hop] at hv
 obtain⟨p,q,rfl,hp,hq⟩:=mM hv
 unfold cf at hc
 simp only[hop] at hc
 have ho:execOp a.eval o=(do Instr.storeAt T (a.eval i) (a.eval j); pure .skip):=by simp only[execOp,hop]
 split at hc
 ·rename_i r hT
  split at hc
  ·rename_i c0 g caps hg
   split at hc
   ·rename_i hsimp
    cases hc
    have hi:=(bM hE hT).2
    have hgr0:=hk r _ hg
    obtain⟨b,arr,T',hb,hh,hr⟩:=hI.res r _ hgr0
    generalize hy:a.eval i=y at *
    generalize hz:a.eval j=z at *
    cases hp with
    | ptr h hp' =>
     rw[hb] at h
     cases h
     cases hp'
     cases hq with
     | fn hcaps =>
      rename_i vs
      have hlen:arr.size=1:=by
       have:arr.toList.length=1:=hr.len
       simpa using this
      have hrun:=wz (P:=P) (w:=w) (s := .fn) (c:=[.func (.func g) #[] vs.toArray]) (o:=0) hi rfl rfl (fun v hv=>by rw[U4.1 hv]; rfl) hh (by simp[hlen])
      have hbb:bj γ r (.box .fn c0)=some b:=by simp[bj,hb]
      have hnl : ∀ o,¬Pr b o:=fun o ho=>hI.loose r _ b hgr0 hbb o ho
      have hcell : ∀ b1 o1 v1,some b=some b1→Pr b1 o1→w.cell? ⟨b1,o1,none⟩=some v1→(w.setRow b (aU arr.toList 0 [.func (.func g) #[] vs.toArray]).toArray).cell? ⟨b1,o1,none⟩=some v1:=fun b1 o1 v1 he ho=>by
       cases he
       exact V2 ho (hnl _)
      have hI1:=hI.turn r none (some b) (eI b (aU arr.toList 0 [.func (.func g) #[] vs.toArray]).toArray) (fun _ _ h=>h) (fun _ _=>rfl) (fun e t v h=>hI.gs r e t v h) (fun b t h=>hI.wfs r b t h) (fun b1 he=>by
       cases he
       exact⟨hI.where_ r _ b hgr0 hbb,fun r' x hne hx=>hI.apart r r' _ x b hgr0 hx (fun e=>hne e.symm) hbb⟩) (fun _ _ h=>h) (fun b o h => .inl h) hcell (fun x hx=>by cases hx) (fun x b hx=>by cases hx)
      have hblt:b < w.heap.size:=(V8.1 hh).1
      have hI2:=hI1.lean1 (b:=b) (fun o=>o=0) (by simpa using hblt) (hI.where_ r _ b hgr0 hbb) (fun s x hx hbx=>by
       by_cases hs:s=r
       ·simp[hs] at hx
       ·simp only[S4 hs] at hx
        exact hI.apart r s _ x b hgr0 hx (fun e=>hs e.symm) hbb hbx)
      have hI3:=hI2.turn r (some (.keepF g caps)) none ⟨rfl,rfl,rfl,T7 _,fun _ _ _=>rfl⟩ (fun _ _ h=>h) (fun _ _=>rfl) (fun e t v h=>hI.gs r e t v h) (fun b t h=>hI.wfs r b t h) (fun b hb=>by cases hb) (fun _ _ h=>h) (fun b o h => .inl h) (fun b o v hb=>by cases hb) (fun x hx=>by
       cases hx
       refine⟨b,vs,hb,⟨.inr ⟨rfl,rfl⟩,?_⟩,?_⟩
       ·rw[cell_of_row _ b 0 _ T' (0,0) (setRow_heap w b arr _ T' (0,0) hh)]
        simp[aU]
       ·refine jj (fun b1 o1 v1 h1=>⟨.inl h1.1,?_⟩) (fun _ _ h=>h) (Cm hcaps hsimp)
        exact(jK hI.prIn (eI b _) (fun _ _ h=>h) hcell _ _ _ h1).2) (fun x b hx hb=>by
       cases hx
       cases hb)
      have hg3:bo get [(r,some (.keepF g caps))]=fun s=>if s=r then some (.keepF g caps) else(if s=r then none else get s):=by
       funext s
       show(if s=r then some (aP.keepF g caps) else get s)=_
       by_cases hs:s=r
       ·rw[S6 hs,S6 hs]
       ·rw[S4 hs,S4 hs,S4 hs]
      rw[←hg3] at hI3
      refine AO hI3 ?_ (fun _ _=>rfl)
      ·rw[ho]
       have hrun':(Instr.storeAt T (.pointer (some ⟨b,0,none⟩)) (.func (.func g) #[] vs.toArray)).run P w=_:=hrun
       simp only[U5,hrun',T6,V0]
   ·cases hc
  ·cases hc
 ·rename_i t r s path hnot hT
  split at hc
  ·rename_i hst
   subst hst
   split at hc
   ·rename_i bt c hg
    split at hc
    ·rename_i v' u' m hf hgr
     split at hc
     rotate_left
     ·cases hc
     rename_i c' hset hm
     cases hc
     have hm:=aw_ hm
     have hi:=(bM hE hT).2
     obtain⟨cs,hx,hrt0⟩:=xZ (hI.tys hk) hq hf
     have e1:(aK s q r0).1=v':=by rw[hgr]
     have e2:(aK s q r0).2.1=u':=by rw[hgr]
     have e3:(aK s q r0).2.2=m:=by rw[hgr]
     have hgr0:=hk r _ hg
     obtain⟨γ',t',hI',hrt,hγ,hty⟩:=(jn s).1 q r0 s cs get γ hI (fun r h1 h2=>hfr r h1 (by omega)) hrt0
     have:=hty rfl
     subst this
     rw[e1] at hrt
     rw[e2] at hI'
     have hrin : ¬(r0≤r∧r < m):=fun h=>by
      obtain⟨g,hgγ⟩:=(hI.res r _ hgr0).γsome
      rw[hfr r h.1 (by omega)] at hgγ
      cases hgγ
     have hγr:γ' r=γ r:=hγ r (fun h=>hrin ⟨h.1,by omega⟩)
     have hkr:bo get u' r=some (.box bt c):=by
      rw[Fz (fun p hp => ?_)]
      ·exact hgr0
      ·have:=(np t').1 q r0 p (by rw[e2]; exact hp)
       exact fun e=>hrin (by rw[e,e3] at this; exact this)
     have hk : ∀ r x,r=r→ay res r=some x→True:=fun _ _ _ _=>trivial
     have hfar : ∀ r,¬(r0≤r∧r < r0+64)→γ' r=γ r:=fun r h=>hγ r (fun h'=>h ⟨h'.1,by omega⟩)
     obtain⟨b,arr,T',hb,hh,hr⟩:=hI'.res r _ hkr
     generalize hy:a.eval i=y at *
     cases hp with
     | ptr h hp' =>
      rename_i b1 off t1
      rw[←hγr,hb] at h
      cases h
      have hwf:cJ false bt=true:=hI'.wfs r _ _ hb
      obtain⟨h1,h2⟩:=N0 hwf hr hp' hrt hset
      have hrun:=wz (P:=P) (w:=w) (o:=off) hi (d9 hrt) (zx hI'.gs hrt hi.one) (LN hI'.gs hrt) hh (by simpa using h2)
      have hbb:bj γ' r (.box bt c)=some b:=by simp[bj,hb]
      have hbb':bj γ' r (.box bt c')=some b:=by simp[bj,hb]
      have hnl : ∀ o,¬Pr b o:=fun o ho=>hI'.loose r _ b hkr hbb o ho
      have hcell : ∀ b1 o1 v1,some b=some b1→Pr b1 o1→w.cell? ⟨b1,o1,none⟩=some v1→(w.setRow b (aU arr.toList off cs).toArray).cell? ⟨b1,o1,none⟩=some v1:=fun b1 o1 v1 he ho=>by
       cases he
       exact V2 ho (hnl _)
      refine AO (get':=bo get (u'++[(r,some (.box bt c'))])) (γ':=γ') (Pr':=Pr) (w':=w.setRow b (aU arr.toList off cs).toArray) ?_ ?_ hfar
      ·rw[cp]
       refine hI'.turn r (some (.box bt c')) (some b) (eI b _) (fun _ _ h=>h) (fun _ _=>rfl) (fun e t v h=>hI'.gs r e t v h) (fun b t h=>hI'.wfs r b t h) ?_ (fun _ _ h=>h) (fun b o h => .inl h) hcell ?_ ?_
       ·intro b1 he
        cases he
        exact⟨hI'.where_ r _ b hkr hbb,fun r' x hne hx=>hI'.apart r r' _ x b hkr hx (fun e=>hne e.symm) hbb⟩
       ·intro x he
        cases he
        refine⟨b,_,T',hb,setRow_heap w b arr _ T' (0,0) hh,?_⟩
        rw[List.toList_toArray]
        exact⟨hr.1,.inl (mI (jK hI'.prIn (eI b _) (fun _ _ h=>h) hcell) (fun _ _ h=>h) h1)⟩
       ·intro x b1 he hb1
        cases he
        rw[hbb'] at hb1
        cases hb1
        exact⟨hI'.where_ r _ b hkr hbb,fun r' x hne hx=>hI'.apart r r' _ x b hkr hx (fun e=>hne e.symm) hbb,fun o ho=>V2 ho (hnl o)⟩
      ·rw[ho,hx]
       simp only[U5,hrun,T6,V0]
    ·cases hc
   ·cases hc
  ·cases hc
 ·rename_i t r s0 n path hT
  split at hc
  ·rename_i e t1 xs hg
   split at hc
   ·rename_i x hnot hx
    split at hc
    ·rename_i y hput
     cases hc
     have hi:=(bM hE hT).2
     obtain⟨Pr',hI',hP,hR,hsame,_⟩:=gr hI hk (cG 9 q)
     have hL : ∀ b o v,Ln Pr w b o v→Ln Pr' w b o v:=fun b o v h=>⟨hP _ _ h.1,h.2⟩
     have hrn:r ∉ cG 9 q:=sV hnot
     have hgr:bo get (freeze res (cG 9 q)) r=some (.row e t1 xs false):=(hsame r hrn).trans (hk r _ hg)
     obtain⟨c,hz,hrk⟩:=eZ hR (d':=9) (by omega) (fun r hr=>hr) (pu hL (fun _ _ h=>h) hq) hx
     generalize hy:a.eval i=z at *
     cases hp with
     | rptr h h0 hn hp' =>
      rename_i b m cap off e1 t2
      obtain⟨v1,css,hv1,hels,hown,_⟩:=hI'.res r _ hgr
      rw[h] at hv1
      cases hv1
      have hown':=hown
      rcases hown.2 with⟨hnil,_⟩ | ⟨g,cap',cur,hs,_,hh,hnc,hcm,hcs,htake⟩
      ·cases hnil
      ·cases hs
       have hin:n.toNat < xs.length:=by omega
       have hic:n.toNat < css.length:=by rw[hels.1]; exact hin
       have he:=hels.2 _ hin hic
       have hD:xs.getD n.toNat t1.dflt=xs[n.toNat]:=by rw[List.getD_eq_getElem?_getD,T9 hin,Option.getD_some]
       rw[hD] at hput
       obtain⟨h1,h2⟩:=IZ (L:=Ln Pr' w) (s:=s0) (c:=c) (u:=fun s=>ef? s x) (fun y' hy'=>by
        obtain⟨rfl,rfl⟩:=eQ hy'
        exact hrk) hput hp' he
       have hcl:(css[n.toNat]).length=t1.sz:=hels.lens _ (bf_ hic)
       have hmul:(n.toNat+1)*t1.sz≤xs.length*t1.sz:=ae_ _ hin
       have hmul2:xs.length*t1.sz≤cap*t1.sz:=ae_ _ hnc
       rw[cp_] at hmul
       have hrun:=wz (P:=P) (w:=w) (o:=n.toNat*t1.sz+off) hi (dv hrk) (Fl hrk hi.one) (lI hrk) hh (by omega)
       have hfl:=mN hels.lens (T9 hic) (o:=off) (d:=c) (by omega)
       have hbb:bj γ r (.row e t1 xs false)=some b:=by simp[bj,h,ao_]
       have hnl : ∀ o,¬Pr' b o:=fun o ho=>hI'.loose r _ b hgr hbb o ho
       have hcell : ∀ b1 o1 v1,some b=some b1→Pr' b1 o1→w.cell? ⟨b1,o1,none⟩=some v1→(w.setRow b (aU cur.toList (n.toNat*t1.sz+off) c).toArray).cell? ⟨b1,o1,none⟩=some v1:=fun b1 o1 v1 he ho=>by
        cases he
        exact V2 ho (hnl _)
       have hflen:css.flatten.length=xs.length*t1.sz:=hels.flat
       refine LP (w':=w.setRow b (aU cur.toList (n.toNat*t1.sz+off) c).toArray) (Pr':=Pr') ?_ ?_
       ·rw[cp]
        refine hI'.turn r (some (.row e t1 (xs.set n.toNat y) false)) (some b) (eI b _) (fun _ _ h=>h) (fun _ _=>rfl) (fun e t v h=>hI.gs r e t v h) (fun b t h=>hI.wfs r b t h) ?_ (fun _ _ h=>h) (fun b o h => .inl h) hcell ?_ ?_
        ·intro b1 he
         cases he
         exact⟨hI'.where_ r _ b hgr hbb,fun r' x hne hx=>hI'.apart r r' _ x b hgr hx (fun e=>hne e.symm) hbb⟩
        ·intro x' hx'
         cases hx'
         refine⟨_,css.set n.toNat (aU css[n.toNat] off c),h,jk (jK hI'.prIn (eI b _) (fun _ _ h=>h) hcell) (I1 hels h1),?_,fun h=>by cases h⟩
         have hle:n.toNat*t1.sz+off+c.length≤xs.length*t1.sz:=by omega
         rw[hfl,bo_]
         refine⟨by rw[jL (by rw[hflen]; exact hle)]; exact hflen,.inr ⟨b,cap,_,rfl,aa_ _,setRow_heap w b cur _ e (0,0) hh,hnc,hcm,?_,?_⟩⟩
         ·have hsl:(aU cur.toList (n.toNat*t1.sz+off) c).length=cur.toList.length:=jL (by rw[X4 (xs:=cur),hcs]; exact W7 hle hmul2)
          rw[dg_,hsl,X4 (xs:=cur)]
          exact hcs
         ·rw[List.toList_toArray,yM hle,htake]
        ·intro x' b1 hx' hb1
         cases hx'
         have:b1=b:=by simpa[bj,h,ao_] using hb1.symm
         subst this
         exact⟨hI'.where_ r _ b1 hgr hbb,fun r' x hne hx=>hI'.apart r r' _ x b1 hgr hx (fun e=>hne e.symm) hbb,fun o ho=>V2 ho (hnl o)⟩
       ·rw[ho,hz]
        simp only[U5,hrun,T6,V0]
    ·cases hc
   ·cases hc
  ·cases hc
 ·cases hc
end
end Go.Proofs.YtfffplonjaigkaaGreatDoor.Abs
namespace Go.Proofs.YtfffplonjaigkaaGreatDoor.Abs
open Go Go.RowKit
theorem wA {z:Array Value} {t:Ty} (hz:z.toList=zc t) (hsz:(zc t).length=t.sz) (n:Nat):(W3 n (zc t)).flatten=(madeCells z (n*t.sz)).toList:=by
 have hzs:z.size=t.sz:=by rw[←X4,hz,hsz]
 apply cj_
 intro j
 have hl:(W3 n (zc t)).flatten.length=n*t.sz:=by simp[hsz]
 by_cases hj:j < n*t.sz
 ·have hpos:0 < t.sz:=by
   rcases Nat.eq_zero_or_pos t.sz with h | h
   ·rw[h] at hj
    omega
   ·exact h
  have hq:j / t.sz < n:=dn_ (by rwa[ca_])
  have hd:j / t.sz*t.sz+j % t.sz=j:=by rw[ca_]; exact Nat.div_add_mod j t.sz
  have h1:=iT (css:=W3 n (zc t)) (n:=t.sz) (fun c hc=>by rw[List.eq_of_mem_replicate hc]; exact hsz) (i:=j / t.sz) (j:=j % t.sz) (c:=zc t) (by rw[List.getElem?_replicate,S6 hq]) (Nat.mod_lt _ hpos)
  rw[hd] at h1
  rw[h1,←hz,Y6]
  have hm:j % z.size < z.size:=by rw[hzs]; exact Nat.mod_lt _ hpos
  have hg:(madeCells z (n*t.sz)).toList[j]? = some z[j % z.size]! := by
   simp[madeCells,hj]
  rw[hg,getElem!_pos z (j % z.size) hm,←hzs]
  exact Array.getElem?_eq_getElem hm
 ·rw[Z5 (by omega),Z5 (by rw[X4,size_madeCells]; omega)]
theorem lN : ∀ t:Ty,(zc t).length=t.sz
 | .int _=>rfl
 | .bool=>rfl
 | .err=>rfl
 | .fn=>rfl
 | .pt=>rfl
 | .bp _=>rfl
 | .str=>rfl
 | .unit=>rfl
 | .pair a b=>by rw[zc,S5,lN a,lN b]; rfl
 | .agg t=>lN t
 | .slice _ _=>rfl
theorem vH {L:Lk} {t:Ty} (n:Nat):hJ L t (W3 n t.dflt) (W3 n (zc t)):=by
 refine⟨by simp,fun i hi hi' => ?_⟩
 rw[dc_,dc_]
 exact mL t
section
variable {P:Program} {E:ce} {call:(I:ap)→List SV→aB→Option (I.sh.den×I.bx.den)} {w0:World} {X:Nat→Prop} {Pr0:Nat→Nat→Prop} {sl:List SV} {get:Nat→Option aP} {γ:Nat→Option G} {Pr:Nat→Nat→Prop}
 {a:Act} {w:World} {res:aB} {r0:Nat} {o:Oper} {vs:List SV} {v:SV} {u:Up}
theorem FC {L:Lk} {rows:Nat→Prop} (hR:fE L γ res rows) {t:Ty} (ht:t.sz=1 ∨ ∃ u,t = .agg u) :
  ∀(ps:List (Nat×SV)) (qs:List (Nat×Value)) (xs xs':List t.den) (css:List (List Value)) (cs:Array Value),ya (fun p q=>p.1=q.1∧RV L γ p.2 q.2) ps qs→(∀ p∈ps,∀ r∈cG 9 p.2,rows r)→hJ L t xs css→css.flatten=cs.toList →
   re res t ps xs=some xs' → ∃ css' cs',Instr.fill (fun i=>some (i*t.sz,t.sz)) cs qs=some cs'∧hJ L t xs' css'∧css'.flatten=cs'.toList∧xs'.length=xs.length
 | [],[],xs,xs',css,cs,_,_,he,hf,h=>by
  cases h
  exact⟨css,cs,rfl,he,hf,rfl⟩
 | (f,v) :: ps,(g,u) :: qs,xs,xs',css,cs,.cons hpq hps,hrow,he,hf,h=>by
  obtain⟨rfl,hv⟩:=hpq
  simp only[re] at h
  split at h
  ·rename_i hlt
   have hlt:f < xs.length:=by simpa[Nat.blt_eq] using hlt
   simp only[S7] at h
   obtain⟨x,hx,h⟩:=h
   obtain⟨c,rfl,hc⟩:=eZ hR (d':=9) (by omega) (fun r hr=>hrow _ (by simp) r hr) hv hx
   have hcells:=Fl hc ht
   have hlen:c.length=t.sz:=dv hc
   have hfl:=he.flat
   have hmul:(f+1)*t.sz≤xs.length*t.sz:=ae_ _ hlt
   rw[cp_] at hmul
   have hcs:cs.size=xs.length*t.sz:=by rw[←X4,←hf,hfl]
   have hic:f < css.length:=by rw[he.1]; exact hlt
   have hsp:=mN he.lens (T9 hic) (o:=0) (d:=c) (by omega)
   have h0:aU css[f] 0 c=c:=by
    have:=he.lens _ (bf_ hic)
    simp[aU]
    omega
   rw[h0,au_] at hsp
   have hfold:((mk t c).cells.zipIdx.foldl (fun cs (c,j)=>cs.setIfInBounds (f*t.sz+j) c) cs)=(aU cs.toList (f*t.sz) c).toArray:=by
    rw[hcells]
    exact Cs.fold_splice c cs (f*t.sz) (by omega)
   obtain⟨css',cs',h1,h2,h3,h4⟩:=FC hR ht ps qs (xs.set f x) xs' (css.set f c) (aU cs.toList (f*t.sz) c).toArray hps (fun p hp=>hrow p (T8 _ hp)) (I1 he hc) (by rw[hsp,hf]) h
   refine⟨css',cs',?_,h2,h3,by rw[h4,bo_]⟩
   rw[Instr.fill]
   simp only
   rw[S4 (by rw[hcells]; simp[hlen]; omega),hfold]
   exact h1
  ·cases h
theorem FD (hE:d7 P E) (hI:bn w0 X Pr0 sl get γ Pr a w) (hfr : ∀ r,r0≤r→r < r0+64→γ r=none) {T:TypeId} {ps:Array (Nat×Operand)} (hop:o.op = .buildSlice T 2 ps) {r r':Nat} {s s':Ty} {p p':List Nat} {e:TypeId}
  (hv:b8 (Ln Pr w) γ [.ptr r s p,.ptr r' s' p'] ((ps.toList.map (·.2)).map a.eval)) (hT:cD E.ty T=some (.slice e .pt)) (hps:ps.toList.map (·.1)=[0,1]) :
  eH P w0 X Pr0 sl get γ Pr a w r0 o (.row r0) [(r0,some (.rowP e [.ptr r s p,.ptr r' s' p']))]:=by
 obtain⟨hU,hei,hsz,_⟩:=(bM hE hT).1
 obtain⟨i,hi1,hi2,z,hz,hzc⟩:=hei.info
 obtain⟨x,y,hpl⟩ : ∃ x y,ps.toList=[(0,x),(1,y)]:=by
  generalize ps.toList=l at hps hv
  match l,hps,hv with
  | [],h,_=>cases h
  | [_],h,_=>simp at h
  | [(i1,x),(i2,y)],h,_ =>
   simp only[Y4,List.map_nil,List.cons.injEq] at h
   obtain⟨rfl,rfl,_⟩:=h
   exact⟨x,y,rfl⟩
  | _ :: _ :: _ :: _,h,_=>simp at h
 rw[hpl] at hv
 have h00:γ r0=none:=hfr r0 (T7 _) (by omega)
 have hR1:=Cm hv rfl
 have hq : ∀ v∈[a.eval x,a.eval y],v.cells = #[v]:=by
  intro v hv'
  have : ∃ ad,v = .pointer ad:=by
   cases hv with
   | cons h1 h2 =>
    cases h2 with
    | cons h2 h3 =>
     simp only[U7,List.not_mem_nil,or_false] at hv'
     rcases hv' with hv' | hv'
     ·subst hv'
      generalize a.eval x=q at *
      cases h1 with
      | ptr=>exact⟨_,rfl⟩
     ·subst hv'
      generalize a.eval y=q at *
      cases h2 with
      | ptr=>exact⟨_,rfl⟩
  obtain⟨ad,rfl⟩:=this
  rfl
 have hcells:(madeCells z.cells (2*1)).size=2:=by simp[size_madeCells]
 have hfill:Instr.fill (fun i=>some (i*1,1)) (madeCells z.cells (2*1)) [(0,a.eval x),(1,a.eval y)]=some #[a.eval x,a.eval y]:=by
  have hx:=hq (a.eval x) (by simp)
  have hy:=hq (a.eval y) (by simp)
  generalize madeCells z.cells (2*1)=cs at hcells
  obtain⟨l⟩:=cs
  match l,hcells with
  | [c,d],_=>simp[Instr.fill,hx,hy]
 have hrun:(Instr.buildSlice T 2 (ps.map fun(i,x)=>(i,a.eval x))).run P w = .ok (.slice (some ⟨w.heap.size,0,none⟩) 2 2) (w.alloc (.cells #[a.eval x,a.eval y] e)):=by
  simp only[Instr.buildSlice,U5,run_underlying hU,T6,hei.sizeOf]
  rw[S4 (by decide)]
  simp only[U5,V0,T6,Array.toList_map,hpl,Y4,List.map_nil]
  rw[S4 (by decide)]
  have hc':Array.map (fun x=>z.cells[x % z.cells.size]!) (Array.range (2*Ty.pt.sz))=madeCells z.cells (2*1):=rfl
  have hfill':Instr.fill (fun i=>some (i*Ty.pt.sz,Ty.pt.sz)) (madeCells z.cells (2*1)) [(0,a.eval x),(1,a.eval y)]=some #[a.eval x,a.eval y]:=hfill
  simp only[zeroValue,typeInfo,U5,run_program,hi1,V0,T6,hz,hc',hfill']
  simp only[newRow,U5,run_newObj_alloc,T6,V0]
 have hgr:=World.grownBy_alloc w (.cells #[a.eval x,a.eval y] e) none
 have hI1:=hI.turn r0 none none hgr (fun _ _ h=>h) (fun _ _=>rfl) (fun e t v h=>hI.gs r0 e t v h) (fun b t h=>hI.wfs r0 b t h) (fun b hb=>by cases hb) (fun _ _ h=>h) (fun b o h => .inl h) (fun b o v hb=>by cases hb) (fun x hx=>by cases hx) (fun x b hx=>by cases hx)
 have hhp:=heap_alloc_new w (.cells #[a.eval x,a.eval y] e)
 have hI2:=hI1.lean1 (b:=w.heap.size) (fun _=>True) (V8.1 hhp).1 (.inr hI.size) (fun s x hx hbx=>by
  by_cases hs:s=r0
  ·simp[hs] at hx
  ·simp only[S4 hs] at hx
   have:=(hI.res s x hx).lt hbx
   omega)
 have hLn : ∀ b1 o1 v1,Ln Pr w b1 o1 v1→Ln (fun b' o=>Pr b' o∨(b'=w.heap.size∧True)) (w.alloc (.cells #[a.eval x,a.eval y] e)) b1 o1 v1:=fun b1 o1 v1 h1 =>
  ⟨.inl h1.1,(jK (Pr':=Pr) hI.prIn hgr (fun _ _ h=>h) (fun b o v hb=>by cases hb) _ _ _ h1).2⟩
 have hnew : ∀ j v,[a.eval x,a.eval y][j]? = some v→Ln (fun b' o=>Pr b' o∨(b'=w.heap.size∧True)) (w.alloc (.cells #[a.eval x,a.eval y] e)) w.heap.size j v:=fun j v hj=>by
  refine⟨.inr ⟨rfl,trivial⟩,?_⟩
  rw[cell_of_row _ w.heap.size j _ e (0,0) hhp]
  rw[←Y6]
  exact hj
 have hI3:=hI2.fresh (r0:=r0) h00 none ⟨rfl,rfl,rfl,T7 _,fun _ _ _=>rfl⟩ (.row e .pt (.slice (some ⟨w.heap.size,0,none⟩) 2 2)) (fun e t v h=>by cases h; exact⟨_,_,_,rfl⟩) (fun b t h=>by cases h) (.rowP e [.ptr r s p,.ptr r' s' p']) (fun b hb=>by cases hb) (fun _ _ h=>h) (fun b o h => .inl h) (fun b o v hb=>by cases hb) ⟨w.heap.size,[a.eval x,a.eval y],bK,jj hLn (uj h00) hR1,hnew⟩ (fun b hb=>by cases hb) (fun b hb=>by cases hb)
 have hg3:bo get [(r0,some (.rowP e [.ptr r s p,.ptr r' s' p']))]=fun s1=>if s1=r0 then some (.rowP e [.ptr r s p,.ptr r' s' p']) else(if s1=r0 then none else get s1):=by
  funext s1
  show(if s1=r0 then some (aP.rowP e [.ptr r s p,.ptr r' s' p']) else get s1)=_
  by_cases hs:s1=r0
  ·rw[S6 hs,S6 hs]
  ·rw[S4 hs,S4 hs,S4 hs]
 rw[←hg3] at hI3
 refine gq (u := .slice (some ⟨w.heap.size,0,none⟩) 2 2) hI3 ?_ (.row bK) jl
 simp only[execOp,hop,U5,hrun,T6,V0]
theorem EG (H:dP P E call w0 X Pr0 sl get γ Pr a w res r0 o vs v u) {T:TypeId} {n:Nat} {ps:Array (Nat×Operand)} (hop:o.op = .buildSlice T n ps):eH P w0 X Pr0 sl get γ Pr a w r0 o v u:=by
 obtain⟨hE,hI,hk,hfr,hv,hc⟩:=H
 rw[hop] at hv
 have hv':b8 (Ln Pr w) γ vs ((ps.toList.map (·.2)).map a.eval):=hv
 unfold cf at hc
 simp only[hop] at hc
 have hc1:pq E T n ps vs res r0 cd=some (v,u):=by
  rcases vs with _ | ⟨v1,_ | ⟨v2,_ | ⟨v3,vs⟩⟩⟩ <;> exact hc
 unfold pq at hc1
 split at hc1
 ·split at hc1
  ·rename_i e hT hps
   cases hc1
   exact FD hE hI hfr hop hv' hT hps
  ·cases hc1
 rename_i hc' _
 clear hc'
 have hc':=hc1
 split at hc'
 ·rename_i e t hT
  split at hc'
  ·rename_i xs hb hle
   cases hc'
   obtain⟨hU,hei,hsz,_⟩:=(bM hE hT).1
   obtain⟨i,hi1,hi2,z,hz,hzc⟩:=hei.info
   obtain⟨Pr',hI',hP,hR,_⟩:=gr hI hk (vs.flatMap (cG 9))
   have hL : ∀ b o v,Ln Pr w b o v→Ln Pr' w b o v:=fun b o v h=>⟨hP _ _ h.1,h.2⟩
   have hal:=rR (ks:=ps.toList.map (·.1)) (eY hL (fun _ _ h=>h) hv')
   rw[I0] at hal
   have hcs0:(W3 n (zc t)).flatten=(madeCells z.cells (n*t.sz)).toList:=wA hzc (lN t) n
   obtain⟨css',cs',h1,h2,h3,h4⟩:=FC hR hei.one _ _ _ _ _ (madeCells z.cells (n*t.sz)) hal (by
    intro p hp r hr
    simp only[List.mem_flatMap]
    exact⟨p.2,(List.of_mem_zip (a:=p.1) (b:=p.2) hp).2,hr⟩) (vH n) hcs0 hb
   rw[cb_] at h4
   have hn:n*t.sz≤16777216:=aw_ hle
   have hnn:n≤n*t.sz:=dx_ _ hsz
   have h00:γ r0=none:=hfr r0 (T7 _) (by omega)
   have hrow:=hI'.newRow h00 (e:=e) (xs:=xs) (cs:=cs') h2 h3 (by rw[h4]; exact W7 (W7 hnn hn) (by decide))
   rw[h4] at hrow
   refine gq (u := .slice (some ⟨w.heap.size,0,none⟩) n n) (w':=w.alloc (.cells cs' e)) (Pr':=Pr') (by rw[cp]; exact hrow) ?_ (.row bK) jl
   have hrun:(Instr.buildSlice T n (ps.map fun(i,x)=>(i,a.eval x))).run P w = .ok (.slice (some ⟨w.heap.size,0,none⟩) n n) (w.alloc (.cells cs' e)):=by
    simp only[Instr.buildSlice,U5,run_underlying hU,T6,hei.sizeOf]
    rw[S4 (by omega)]
    simp only[U5,V0,T6,Array.toList_map]
    by_cases h0:n*t.sz=0
    ·rw[S6 h0]
     have hcells:Array.map (fun x=>(#[]:Array Value)[x % (#[]:Array Value).size]!) (Array.range (n*t.sz))=madeCells z.cells (n*t.sz):=by simp[h0,madeCells,Array.range_zero']
     simp only[U5,V0,T6,hcells,h1]
     simp only[newRow,U5,run_newObj_alloc,T6,V0]
    ·rw[S4 h0]
     have hcells:Array.map (fun x=>z.cells[x % z.cells.size]!) (Array.range (n*t.sz))=madeCells z.cells (n*t.sz):=rfl
     simp only[zeroValue,typeInfo,U5,run_program,hi1,V0,T6,hz,hcells,h1]
     simp only[newRow,U5,run_newObj_alloc,T6,V0]
   simp only[execOp,hop,U5,hrun,T6,V0]
  ·cases hc'
 ·cases hc'
theorem FE (H:dP P E call w0 X Pr0 sl get γ Pr a w res r0 o vs v u) {T:TypeId} {i j:Operand} (hop:o.op = .makeSlice T i j):eH P w0 X Pr0 sl get γ Pr a w r0 o v u:=by
 obtain⟨hE,hI,hk,hfr,hv,hc⟩:=H
 rw[hop] at hv
 obtain⟨p,q,rfl,hp,hq⟩:=mM hv
 unfold cf at hc
 simp only[hop] at hc
 have ho:execOp a.eval o=(do pure (.value (←Instr.makeSlice T (a.eval i) (a.eval j)))):=by simp only[execOp,hop]
 split at hc
 ·rename_i e t k n hT hsame
  ·split at hc
   ·rename_i nb hnb
    split at hc
    ·rename_i h0
     split at hc
     ·rename_i hle
      cases hc
      obtain⟨hU,hei,hsz,_⟩:=(bM hE hT).1
      obtain⟨x,hi1,hi2,z,hz,hzc⟩:=hei.info
      obtain⟨hby,hpos⟩:=hE.by_ e nb x hnb hi1
      have hj : ∃ k',a.eval j = .int k' n:=by
       have hi:=dd hp
       cases i with
       | tmp m=>cases j with
        | tmp m' =>
         have:m=m':=W2 hsame
         subst this
         exact⟨_,hi⟩
        | _=>simp[wq] at hsame
       | const c=>cases j with
        | const c' =>
         have hi':c = .int k n:=hi
         subst hi'
         cases c' <;> simp[wq] at hsame
         subst hsame
         exact⟨_,rfl⟩
        | _=>simp[wq] at hsame
       | _=>simp[wq] at hsame
      obtain⟨k',hj⟩:=hj
      rw[dd hp,hj] at ho
      have hnn:((n.toNat:Nat):Int)=n:=Int.toNat_of_nonneg h0
      have hn1:n.toNat≤n.toNat*nb:=dx_ _ hpos
      have hn2:n.toNat≤140737488355328:=W7 hn1 hle
      have hbytes:(x.bytes:Int)*n≤281474976710656:=by
       rw[hby,←hnn,←Int.natCast_mul,ca_]
       omega
      have hrun:=run_make (P:=P) w T e x z hU hi1 hz k k' n n h0 (Int.le_refl _) hbytes (by omega)
      have h00:γ r0=none:=hfr r0 (T7 _) (by omega)
      have hrow:=hI.newRow h00 (e:=e) (t:=t) (xs:=W3 n.toNat t.dflt) (css:=W3 n.toNat (zc t)) (cs:=madeCells z.cells (n.toNat*x.size)) (vH _) (by rw[hi2]; exact wA hzc (lN t) _) (by rw[cb_]; simp only[maxLen]; omega)
      rw[cb_] at hrow
      refine gq (u := .slice (some ⟨w.heap.size,0,none⟩) n.toNat n.toNat) (w':=w.alloc (.cells (madeCells z.cells (n.toNat*x.size)) e)) (Pr':=Pr) hrow ?_ (.row bK) jl
      rw[ho]
      simp only[U5,hrun,T6,V0]
     ·cases hc
    ·cases hc
   ·cases hc
 ·cases hc
theorem HS {T e ty:TypeId} {i:TypeInfo} {n c:Nat} {v:Value} {xs:List Value} {size:Nat} (hU:P.underlying T=some (.slice e)) (hi:P.info? e=some i) (hown:w.ownsRow 0 e size v n xs) :
  (Builtin.append_ #[T,T] ty #[v,.slice none 0 c]).run P w = .ok v w:=by
 rcases hown.2 with⟨rfl,rfl⟩ | ⟨g,cap,cur,rfl,_,_,hnc,_⟩
 ·simp[Builtin.append_,run_underlying hU,sizeOf,typeInfo,hi,Builtin.lenOf,Builtin.firstCells]
 ·simp[Builtin.append_,run_underlying hU,sizeOf,typeInfo,hi,Builtin.lenOf,Builtin.firstCells,hnc,storeCells]
theorem J3 {T e ty:TypeId} {i:TypeInfo} {z:Value} {size:Nat} (hU:P.underlying T=some (.slice e)) (hi:P.info? e=some i) (hz:i.zero=some z) (hsize:i.size=size) (hzs:z.cells.size=size) (hsz:0 < size)
  {v:Value} {n:Nat} {xs:List Value} (hown:w.ownsRow 0 e size v n xs) {A:Option Addr} {m c:Nat} {news:List Value} (hl:news.length=m*size) (hA:m≠0 → ∃ ad,A=some ad ∧ ∀ j u,news[j]? = some u→w.cell? (ad.add j)=some u) (h1 : ∀ u∈news,u.oneCell'=true)
  (h63:n+m≤maxLen) (hbytes:(n+m)*i.bytes≤140737488355328) :
  ∃ v' w',(Builtin.append_ #[T,T] ty #[v,.slice A m c]).run P w = .ok v' w'∧w'.ownsRow 0 e size v' (n+m) (xs++news)∧w.grownBy w' v.ownBlock∧(∃ A n c,v' = .slice A n c) ∧
   (∀ b,v'.ownBlock=some b→v.ownBlock=some b∨w.heap.size≤b) ∧ ∀ b,v.ownBlock=some b → ∀ j,j < xs.length→w'.cell? ⟨b,j,none⟩=w.cell? ⟨b,j,none⟩:=by
 have hvs : ∃ A n c,v = .slice A n c:=by
  rcases hown.2 with⟨rfl,_⟩ | ⟨g,cap,cur,rfl,_⟩ <;> exact⟨_,_,_,rfl⟩
 by_cases hm:A=none
 ·subst hm
  have hm:m=0:=by
   by_cases h:m=0
   ·exact h
   ·obtain⟨ad,h',_⟩:=hA h
    cases h'
  subst hm
  have hn:news=[]:=W8 (by simpa using hl)
  subst hn
  refine⟨v,w,HS hU hi hown,by simpa using hown,⟨rfl,rfl,rfl,T7 _,fun _ _ _=>rfl⟩,hvs,fun b hb => .inl hb,fun b hb j hj=>rfl⟩
 ·obtain⟨ad,rfl⟩ : ∃ ad,A=some ad:=by
   cases A with
   | none=>exact V2 rfl hm
   | some ad=>exact⟨ad,rfl⟩
  have hnews : ∀ j u,news[j]? = some u→w.cell? (ad.add j)=some u:=by
   intro j u hj
   by_cases h:m=0
   ·subst h
    have hn:news=[]:=W8 (by simpa using hl)
    subst hn
    simp at hj
   ·obtain⟨ad',h',hc⟩:=hA h
    cases h'
    exact hc j u hj
  have hsmall:n+m≤9223372036854775807:=by simp only[maxLen] at h63; omega
  have hlen:(xs++news).length=(n+m)*size:=by rw[S5,hown.1,hl,Nat.add_mul]
  subst hsize
  have grown : ∀(old:Nat),old < n+m →
    (w.drew.alloc (.cells (xs.toArray++news.toArray++Builtin.zeroCells z.cells (grownCap w (n+m) old e - (n+m))) e)).ownsRow 0 e i.size
     (.slice (some ⟨w.heap.size,0,none⟩) (n+m) (grownCap w (n+m) old e)) (n+m) (xs++news):=by
   intro old ho
   have hge:=grownCap_ge w (n+m) old e
   have hcm:grownCap w (n+m) old e≤maxLen:=grownCap_le_maxLen w (n+m) old e h63
   refine⟨hlen,.inr ⟨w.heap.size,_,_,rfl,aa_ _,heap_alloc_new w.drew _,hge,hcm,?_,?_⟩⟩
   ·simp only[Array.size_append,dg_,size_zeroCells,hzs,hown.1,hl,←Nat.add_mul]
    congr 1
    omega
   ·simp only[Array.toList_append,X2]
    rw[←X2,←hlen]
    exact List.take_left
  rcases hown.2 with⟨rfl,rfl⟩ | ⟨g,cap,cur,rfl,hbg,hg,hnc,hcm,hcs,htake⟩
  ·have hx:xs=[]:=W8 (by simpa using hown.1)
   subst hx
   by_cases hm:m=0
   ·subst hm
    have hn:news=[]:=W8 (by simpa using hl)
    subst hn
    refine⟨.slice none 0 0,w,?_,World.ownsRow_nil w 0 e i.size,⟨rfl,rfl,rfl,T7 _,fun _ _ _=>rfl⟩,⟨_,_,_,rfl⟩,(fun b hb=>by cases hb),(fun b hb=>by cases hb)⟩
    simp[Builtin.append_,run_underlying hU,sizeOf,typeInfo,hi,Builtin.lenOf,Builtin.firstCells,loadCells,loadCellsFrom]
   ·have hr:=run_append_nil (P:=P) w T ty e i z hU hi hz ad m c news hl hnews (by omega) (by omega) (by have hb:=hbytes; simp only[Y5] at hb; omega)
    have hgr:=grown 0 (by omega)
    simp only[Y5,ag_,Array.empty_append] at hgr ⊢
    exact⟨_,_,hr,hgr,⟨rfl,rfl,rfl,by simp,fun k hk _=>heap_alloc_old w.drew _ hk⟩,⟨_,_,_,rfl⟩,(fun b hb=>by cases hb; exact .inr (T7 _)),(fun b hb=>by cases hb)⟩
  ·by_cases hroom:n+m≤cap
   ·have hfit:n*i.size+news.length≤cur.size:=by rw[hl,hcs,←Nat.add_mul]; exact ae_ _ hroom
    have hr:=run_append_room (P:=P) w T ty e i hU hi g n cap cur hg ad m c news hl hnews h1 hroom hfit
    refine⟨_,_,hr,⟨hlen,.inr ⟨g,cap,_,rfl,hbg,setRow_heap w g cur _ e _ hg,hroom,hcm,?_,?_⟩⟩,⟨rfl,rfl,rfl,by simp,fun k _ hk=>setRow_other w g k _ (fun e=>hk (by simp[ao_,e]))⟩,⟨_,_,_,rfl⟩,fun b hb => .inl hb,?_⟩
    ·simp only[dg_,S5,Y9,List.length_drop,X4]
     omega
    ·rw[htake,←hlen]
     exact List.take_left
    ·intro b hb j hj
     cases hb
     rw[cell_of_row _ g j _ e (0,0) (setRow_heap w g cur _ e _ hg),cell_of_row w g j cur e (0,0) hg]
     have hjl:j < n*i.size:=by rw[hown.1] at hj; exact hj
     rw[av_,X2,List.getElem?_append_left (by rw[Y9,X4]; omega),bz_,S6 hjl,Y6]
   ·have holds : ∀ j u,xs[j]? = some u→w.cell? ((⟨g,0,none⟩:Addr).add j)=some u:=hown.cells (g:=g) rfl
    have hr:=run_append_grow (P:=P) w T ty e i z hU hi hz ⟨g,0,none⟩ n cap xs hown.1 holds ad m c news hl hnews (by omega) (by omega) (growslice_fits (by omega) hbytes)
    refine⟨_,_,hr,grown cap (by omega),⟨rfl,rfl,rfl,by simp,fun k hk _=>heap_alloc_old w.drew _ hk⟩,⟨_,_,_,rfl⟩,(fun b hb=>by cases hb; exact .inr (T7 _)),fun b hb j hj => ?_⟩
    cases hb
    have hlt:g < w.heap.size:=(V8.1 hg).1
    exact World.cell?_of_block (heap_alloc_old w.drew _ hlt)
theorem Px {L:Lk} {e:TypeId} {t:Ty} {ys:List t.den} {A:Option Addr} {cap:Nat} (hL : ∀ b o v,L b o v→w.cell? ⟨b,o,none⟩=some v) (h:RK L (.slice e t) ys [.slice A ys.length cap]) :
  ∃ css,hJ L t ys css∧(ys.length≠0 → ∃ ad,A=some ad ∧ ∀ j u,css.flatten[j]? = some u→w.cell? (ad.add j)=some u):=by
 obtain⟨A',cap',he,hc,hA⟩:=h
 cases he
 by_cases hy:ys=[]
 ·subst hy
  exact⟨[],⟨rfl,fun i hi=>by simp at hi⟩,fun h=>V2 rfl h⟩
 ·obtain⟨b,o,rfl,hh⟩:=hA hy
  have hch : ∀ i:Fin ys.length,∃ c,RK L t ys[i] c ∧ ∀ j v,c[j]? = some v→L b (o+i*t.sz+j) v:=fun i=>hh i i.2
  have hE:hJ L t ys (List.ofFn fun i:Fin ys.length=>cs_ (hch i)):=by
   refine⟨by simp,fun i hi hi' => ?_⟩
   rw[List.getElem_ofFn]
   exact(Classical.choose_spec (hch ⟨i,hi⟩)).1
  refine⟨_,hE,fun _=>⟨_,rfl,fun j u hj => ?_⟩⟩
  have hlt:j < ys.length*t.sz:=by
   rw[←hE.flat]
   exact(U0.1 hj).1
  have hpos:0 < t.sz:=by
   rcases Nat.eq_zero_or_pos t.sz with h | h
   ·rw[h] at hlt
    omega
   ·exact h
  have hq:j / t.sz < ys.length:=dn_ (by rwa[ca_])
  have hd:j / t.sz*t.sz+j % t.sz=j:=by rw[ca_]; exact Nat.div_add_mod j t.sz
  have h1:=iT hE.lens (i:=j / t.sz) (j:=j % t.sz) (c:=cs_ (hch ⟨j / t.sz,hq⟩)) (by simp[List.getElem?_ofFn,hq]) (Nat.mod_lt _ hpos)
  rw[hd,hj] at h1
  have:=hL _ _ _ ((Classical.choose_spec (hch ⟨j / t.sz,hq⟩)).2 _ _ h1.symm)
  rw[add_lit]
  rw[Nat.add_assoc,hd] at this
  exact this
theorem LQ (hE:d7 P E) (hI:bn w0 X Pr0 sl get γ Pr a w) (hk : ∀ r x,ay res r=some x→get r=some x) (hfr : ∀ r,r0≤r→r < r0+64→γ r=none) {args:Array TypeId} {ty:TypeId} {s x:SV} {p q:Value} (hp:RV (Ln Pr w) γ s p) (hq:RV (Ln Pr w) γ x q)
  (hc:mG E args s x res r0 cd=some (v,u)) :
  ∃ z w' γ' Pr',(Builtin.append_ args ty #[p,q]).run P w = .ok z w'∧bn w0 X Pr0 sl (bo get u) γ' Pr' a w'∧RV (Ln Pr' w') γ' v z ∧ ∀ r,¬(r0≤r∧r < r0+64)→γ' r=γ r:=by
 unfold mG at hc
 split at hc
 ·rename_i T T' r hargs
  split at hc
  ·rename_i e t e' t' xs0 fr hT hTT hg
   split at hc
   ·rename_i xs ys nb hcast hys hnot hnb
    obtain⟨he,rfl⟩:=eQ hcast
    cases he
    split at hc
    ·rename_i hle
     cases hc
     have hTe:T=T':=W2 hTT
     subst hTe
     have hargs':args = #[T,T]:=by
      apply ab_.1
      exact hargs
     subst hargs'
     obtain⟨hU,hei,hsz,_⟩:=(bM hE hT).1
     obtain⟨i,hi1,hi2,z,hz,hzc⟩:=hei.info
     obtain⟨hby,hpos⟩:=hE.by_ e nb i hnb hi1
     obtain⟨Pr',hI',hP,hR,hsame,_⟩:=gr hI hk (cG 9 x)
     have hL : ∀ b o v,Ln Pr w b o v→Ln Pr' w b o v:=fun b o v h=>⟨hP _ _ h.1,h.2⟩
     have hrn:r ∉ cG 9 x:=sV hnot
     have hgr:bo get (freeze res (cG 9 x)) r=some (.row e t xs0 fr):=(hsame r hrn).trans (hk r _ hg)
     obtain⟨c,rfl,hrk⟩:=eZ hR (d':=9) (by omega) (fun r hr=>hr) (pu hL (fun _ _ h=>h) hq) hys
     obtain⟨A,cap,rfl,hrk'⟩:=jo hrk
     obtain⟨v1,css,hv1,hels,hown,_⟩:=hI'.res r _ hgr
     cases hp with
     | row h =>
      rw[hv1] at h
      cases h
      obtain⟨dss,hdss,hnews⟩:=Px (w:=w) (fun b o v h=>h.2) hrk'
      have hone : ∀ u∈dss.flatten,u.oneCell'=true:=hdss.ones
      have hlenle:xs0.length+(ys:List t.den).length≤(xs0.length+(ys:List t.den).length)*nb:=dx_ _ hpos
      have hmax:xs0.length+(ys:List t.den).length≤maxLen:=by
       simp only[maxLen]
       have:=W7 hlenle hle
       omega
      obtain⟨v',w',h1,h2,h3,h4,h5,h6⟩:=J3 (P:=P) (w:=w) (ty:=ty) (c:=cap) (A:=A) hU hi1 hz hi2 (by rw[←X4,hzc,lN]) hsz hown hdss.flat hnews hone hmax (by rw[hby]; exact hle)
      have h00:γ r0=none:=hfr r0 (T7 _) (by omega)
      obtain⟨Pr'',hI'',hP''⟩:=hI'.rebind (r0:=r0) (xs':=xs0++(ys:List t.den)) (css':=css++dss) (v':=v') (w':=w') hgr h00 hv1 h3 (by rw[S5,List.flatten_append]; exact h2) (Pw hels hdss) (fun _ b hb o ho=>h6 b hb o (by rw[hels.flat]; exact ho)) h4 h5 (fun _=>by rw[S5]; omega)
      refine⟨v',w',iX γ r0 (.row e t v'),Pr'',h1,?_,.row bK,jl⟩
      rw[cp]
      exact hI''
    ·cases hc
   ·cases hc
  ·cases hc
 ·cases hc
theorem yb {k:IntKind} : ∀(l:List SV) (us:List Value) (n:Int) (m:Int) {L:Lk},b8 L γ l us →
  (pp (fun x y=>if y < x then y else x) k l n=some m→(us.foldlM Builtin.min2 (.int k n)).run P w = .ok (.int k m) w)∧(pp (fun x y=>if x < y then y else x) k l n=some m→(us.foldlM Builtin.max2 (.int k n)).run P w = .ok (.int k m) w)
 | [],[],n,m,L,_=>by
  constructor
  ·intro h
   cases h
   rfl
  ·intro h
   cases h
   rfl
 | x :: l,u :: us,n,m,L,.cons h hs=>by
  constructor
  ·intro hf
   unfold pp at hf
   split at hf
   ·cases ‹_ :: _=[]›
   ·rename_i k' y l' he
    cases he
    split at hf
    ·rename_i hk
     subst hk
     rw[dd h]
     simp only[List.foldlM_cons,Builtin.min2,U5,V0,T6]
     exact(yb l us _ m hs).1 hf
    ·cases hf
   ·cases hf
  ·intro hf
   unfold pp at hf
   split at hf
   ·cases ‹_ :: _=[]›
   ·rename_i k' y l' he
    cases he
    split at hf
    ·rename_i hk
     subst hk
     rw[dd h]
     simp only[List.foldlM_cons,Builtin.max2,U5,V0,T6]
     exact(yb l us _ m hs).2 hf
    ·cases hf
   ·cases hf
theorem J4 (H:dP P E call w0 X Pr0 sl get γ Pr a w res r0 o vs v u) {b:Builtin} {args:Array Operand} {argTypes:Array TypeId} (hop:o.op = .call {callee := .builtin b,args:=args,argTypes:=argTypes}):eH P w0 X Pr0 sl get γ Pr a w r0 o v u:=by
 obtain⟨hE,hI,hk,hfr,hv,hc⟩:=H
 rw[hop] at hv
 have hv':b8 (Ln Pr w) γ vs (args.toList.map a.eval):=hv
 unfold cf at hc
 simp only[hop] at hc
 have hc':mH E b argTypes o.type vs res r0 cd=some (v,u):=by
  rcases vs with _ | ⟨v1,_ | ⟨v2,_ | ⟨v3,vs⟩⟩⟩ <;> exact hc
 have hargs:args.map a.eval=(args.toList.map a.eval).toArray:=by
  apply ab_.1
  simp
 have ho : ∀(s:Sem Value),(∀ consts,builtin b argTypes o.type consts (args.map a.eval)=(do pure (.value (←s))))→execOp a.eval o=(do pure (.value (←s))):=by
  intro s hs
  simp only[execOp,hop,resolve,pure_bind,invoke]
  exact hs _
 unfold mH at hc'
 have hone : ∀ {x:SV},vs=[x] → ∃ p,args.map a.eval = #[p]∧RV (Ln Pr w) γ x p:=by
  intro x hx
  subst hx
  rw[hargs]
  generalize args.toList.map a.eval=us at hv'
  cases hv' with
  | cons h1 hv' =>
   cases hv'
   exact⟨_,rfl,h1⟩
 have hmany : ∀ {x:SV} {l:List SV},vs=x :: l → ∃ p us,args.map a.eval=(p :: us).toArray∧RV (Ln Pr w) γ x p∧b8 (Ln Pr w) γ l us:=by
  intro x l hx
  subst hx
  rw[hargs]
  generalize args.toList.map a.eval=us at hv'
  cases hv' with
  | cons h1 hv'=>exact⟨_,_,rfl,h1,hv'⟩
 split at hc'
 ·split at hc'
  ·rename_i x
   obtain⟨p,ha,h1⟩:=hone rfl
   have ho':=ho (Builtin.len_ argTypes o.type (args.map a.eval)) (fun _=>rfl)
   rw[ha] at ho'
   obtain⟨x',hx'⟩ : ∃ x',x'=x:=⟨x,rfl⟩
   unfold AJ at hc'
   split at hc'
   ·rename_i s hT
    cases hc'
    rw[dt h1] at ho'
    refine bd hI ho' ?_ dr
    rw[S7] at hT
    obtain⟨T,hT0,hT⟩:=hT
    have hu:P.underlying T=some .string:=(bM hE hT).1
    simp only[Builtin.len_,hT0,av_,Y0,U5,run_underlying hu,T6,V0]
    rfl
   ·rename_i e t r n hT
    split at hc'
    ·rename_i e1 t1 xs hg
     split at hc'
     ·rename_i hst
      cases hst
      cases hc'
      rw[S7] at hT
      obtain⟨T,hT0,hT⟩:=hT
      have hu:P.underlying T=some (.slice e):=(bM hE hT).1.1
      cases h1 with
      | tail h h0 hn hcap =>
       rename_i b m cap e2 t2
       obtain⟨v1,css,hv1,hels,hown,_⟩:=hI.res r _ (hk r _ hg)
       rw[h] at hv1
       cases hv1
       rcases hown.2 with⟨hnil,_⟩ | ⟨g,cap',cur,hs,_⟩
       ·cases hnil
       ·cases hs
        have hnn:=NV h0 hn
        rw[hnn]
        refine bd hI ho' ?_ dr
        simp only[Builtin.len_,hT0,av_,Y0,U5,run_underlying hu,T6,V0]
        rfl
     ·cases hc'
    ·cases hc'
   ·rename_i e t hT hnt
    subst hx'
    split at hc'
    ·rename_i xs hx
     cases hc'
     obtain⟨cs,rfl,hrk⟩:=Pf hI hk h1 hx
     obtain⟨A,cap,rfl,_⟩:=jo hrk
     refine bd hI ho' ?_ dr
     rw[S7] at hT
     obtain⟨T,hT0,hT⟩:=hT
     have hu:P.underlying T=some (.slice e):=(bM hE hT).1.1
     simp only[Builtin.len_,hT0,av_,Y0,U5,run_underlying hu,T6,mk,List.headD_cons,V0]
     rfl
    ·split at hc'
     ·rename_i r hx
      split at hc'
      ·rename_i e1 t1 n hg
       split at hc'
       ·rename_i hst
        cases hst
        cases hc'
        obtain⟨A,c,hγ⟩:=hI.res r _ (hk r _ hg)
        rw[S7] at hT
        obtain⟨T,hT0,hT⟩:=hT
        have hu:P.underlying T=some (.slice e):=(bM hE hT).1.1
        cases h1 with
        | row h =>
         rw[h] at hγ
         cases hγ
         refine bd hI ho' ?_ dr
         simp only[Builtin.len_,hT0,av_,Y0,U5,run_underlying hu,T6,V0]
         rfl
       ·cases hc'
      ·rename_i e1 l hg
       split at hc'
       ·rename_i hst
        cases hst
        cases hc'
        obtain⟨b,vs,hγ,_⟩:=hI.res r _ (hk r _ hg)
        rw[S7] at hT
        obtain⟨T,hT0,hT⟩:=hT
        have hu:P.underlying T=some (.slice e):=(bM hE hT).1.1
        cases h1 with
        | row h =>
         rw[h] at hγ
         cases hγ
         refine bd hI ho' ?_ dr
         simp only[Builtin.len_,hT0,av_,Y0,U5,run_underlying hu,T6,V0]
         rfl
       ·cases hc'
      ·cases hc'
     ·cases hc'
   ·cases hc'
  ·cases hc'
 ·split at hc'
  ·rename_i s x
   obtain⟨p,us,ha,h1,h2⟩:=hmany rfl
   obtain⟨q,rfl,h3⟩ : ∃ q,us=[q]∧RV (Ln Pr w) γ x q:=by
    cases h2 with
    | cons h k =>
     cases k
     exact⟨_,rfl,h⟩
   obtain⟨z,w',γ',Pr',hr,hI',hz,hγ⟩:=LQ (ty:=o.type) hE hI hk hfr h1 h3 hc'
   refine gq hI' ?_ hz hγ
   rw[ho (Builtin.append_ argTypes o.type (args.map a.eval)) (fun _=>rfl),ha]
   simp only[U5,hr,T6,V0]
  ·cases hc'
 ·split at hc'
  ·rename_i x l
   obtain⟨p,us,ha,h1,h2⟩:=hmany rfl
   have ho':=ho (Builtin.min_ argTypes o.type (args.map a.eval)) (fun _=>rfl)
   rw[ha] at ho'
   unfold pH at hc'
   split at hc'
   ·split at hc'
    ·rename_i hm
     cases hc'
     rw[dd h1] at ho'
     exact bd hI ho' ((yb l us _ _ h2).1 hm) dr
    ·cases hc'
   ·cases hc'
  ·cases hc'
 ·split at hc'
  ·rename_i x l
   obtain⟨p,us,ha,h1,h2⟩:=hmany rfl
   have ho':=ho (Builtin.max_ argTypes o.type (args.map a.eval)) (fun _=>rfl)
   rw[ha] at ho'
   unfold pH at hc'
   split at hc'
   ·split at hc'
    ·rename_i hm
     cases hc'
     rw[dd h1] at ho'
     exact bd hI ho' ((yb l us _ _ h2).2 hm) dr
    ·cases hc'
   ·cases hc'
  ·cases hc'
 ·split at hc'
  ·rename_i x
   obtain⟨p,ha,h1⟩:=hone rfl
   have ho':=ho (Builtin.clear_ argTypes o.type (args.map a.eval)) (fun _=>rfl)
   rw[ha] at ho'
   unfold sO at hc'
   split at hc'
   ·rename_i e t r n hT
    split at hc'
    ·rename_i e1 t1 xs hg
     split at hc'
     ·rename_i hst
      cases hst
      cases hc'
      rw[S7] at hT
      obtain⟨T,hT0,hT⟩:=hT
      obtain⟨hu,hie,_⟩:=(bM hE hT).1
      have hgr:=hk r _ hg
      cases h1 with
      | tail h h0 hn hcap =>
       rename_i b m cap e2 t2
       obtain⟨v1,css,hv1,hels,hown,_⟩:=hI.res r _ hgr
       rw[h] at hv1
       cases hv1
       have hown':=hown
       rcases hown.2 with⟨hnil,_⟩ | ⟨g,cap',cur,hs,_,hh,hnc,hcm,hcs,htake⟩
       ·cases hnil
       ·cases hs
        have hbb:bj γ r (.row e t xs false)=some b:=by simp[bj,h,ao_]
        have hnl : ∀ o,¬Pr b o:=fun o ho=>hI.loose r _ b hgr hbb o ho
        have hzl:((W3 (xs.length - n.toNat) (zc t)).flatten).length=(xs.length - n.toNat)*t.sz:=by
         rw[List.length_flatten,List.map_replicate,lN,List.sum_replicate_nat]
        have hflen:css.flatten.length=xs.length*t.sz:=hels.flat
        have hsum:n.toNat*t.sz+(xs.length - n.toNat)*t.sz=xs.length*t.sz:=by rw[←Nat.add_mul]; congr 1; omega
        have hmul2:xs.length*t.sz≤cap*t.sz:=ae_ _ hnc
        have hcell : ∀ b1 o1 v1,some b=some b1→Pr b1 o1→w.cell? ⟨b1,o1,none⟩=some v1→(w.setRow b (aU cur.toList (n.toNat*t.sz) (W3 (xs.length - n.toNat) (zc t)).flatten).toArray).cell? ⟨b1,o1,none⟩=some v1:=fun b1 o1 v1 he ho=>by
         cases he
         exact V2 ho (hnl _)
        have hcl:(css.take n.toNat++W3 (xs.length - n.toNat) (zc t)).flatten=aU css.flatten (n.toNat*t.sz) (W3 (xs.length - n.toNat) (zc t)).flatten:=by
         rw[List.flatten_append,lM hels.lens]
         unfold aU
         rw[db_ (by rw[hzl,hflen]; omega),W9]
        have hli:(xs.take n.toNat++W3 (xs.length - n.toNat) t.dflt).length=xs.length:=by
         rw[S5,Y9,cb_]
         omega
        refine gq (w':=w.setRow b (aU cur.toList (n.toNat*t.sz) (W3 (xs.length - n.toNat) (zc t)).flatten).toArray) (u := .tuple #[]) (Pr':=Pr)
         (hI.turn r (some (.row e t (xs.take n.toNat++W3 (xs.length - n.toNat) t.dflt) false)) (some b) (eI b _) (fun _ _ h=>h) (fun _ _=>rfl) (fun e t v h=>hI.gs r e t v h) (fun b t h=>hI.wfs r b t h) ?_ (fun _ _ h=>h) (fun b o h => .inl h) hcell ?_ ?_) ?_ .undef (fun _ _=>rfl)
        ·intro b1 he
         cases he
         exact⟨hI.where_ r _ b hgr hbb,fun r' x hne hx=>hI.apart r r' _ x b hgr hx (fun e=>hne e.symm) hbb⟩
        ·intro x' hx'
         cases hx'
         refine⟨_,css.take n.toNat++W3 (xs.length - n.toNat) (zc t),h,jk (jK hI.prIn (eI b _) (fun _ _ h=>h) hcell) ?_,?_,fun h=>by cases h⟩
         ·refine⟨by rw[hli,S5,Y9,cb_,hels.1]; omega,fun j hj hj' => ?_⟩
          by_cases hjn:j < n.toNat
          ·rw[bn_ (by rw[Y9]; omega),bn_ (by rw[Y9,hels.1]; omega),df_,df_]
           exact hels.2 j (by omega) (by rw[hels.1]; omega)
          ·rw[bl_ (by rw[Y9]; omega),bl_ (by rw[Y9]; omega),dc_,dc_]
           exact mL t
         ·rw[hcl,hli]
          have hle:n.toNat*t.sz+((W3 (xs.length - n.toNat) (zc t)).flatten).length≤xs.length*t.sz:=by rw[hzl]; omega
          refine⟨by rw[jL (by rw[hflen]; exact hle)]; exact hflen,.inr ⟨b,cap,_,rfl,aa_ _,setRow_heap w b cur _ e (0,0) hh,hnc,hcm,?_,?_⟩⟩
          ·have hsl:(aU cur.toList (n.toNat*t.sz) (W3 (xs.length - n.toNat) (zc t)).flatten).length=cur.toList.length:=jL (by rw[X4 (xs:=cur),hcs]; exact W7 hle hmul2)
           rw[dg_,hsl,X4 (xs:=cur)]
           exact hcs
          ·rw[List.toList_toArray,yM hle,htake]
        ·intro x' b1 hx' hb1
         cases hx'
         have:b1=b:=by simpa[bj,h,ao_] using hb1.symm
         subst this
         exact⟨hI.where_ r _ b1 hgr hbb,fun r' x hne hx=>hI.apart r r' _ x b1 hgr hx (fun e=>hne e.symm) hbb,fun o ho=>V2 ho (hnl o)⟩
        ·rw[ho']
         obtain⟨x,hi1,hi2,z,hz,hzc⟩:=hie.info
         have hzz:(zeroValue e).run P w = .ok z w:=by
          simp only[zeroValue,typeInfo,U5,run_program,hi1,V0,T6,hz]
         have hzc2:(Builtin.zeroCells z.cells (xs.length - n.toNat)).toList=(W3 (xs.length - n.toNat) (zc t)).flatten:=by
          have:=wA (z:=z.cells) hzc (lN t) (xs.length - n.toNat)
          rw[this]
          unfold Builtin.zeroCells madeCells
          rw[←X4,hzc,lN]
         have hst:=run_storeCells_at P b (n.toNat*t.sz) e (W3 (xs.length - n.toNat) (zc t)).flatten 0 cur w hh (by rw[hzl,hcs]; omega) (by
          intro v hv
          rw[List.mem_flatten] at hv
          obtain⟨l,hl,hv⟩:=hv
          rw[List.eq_of_mem_replicate hl] at hv
          exact lI (mL (L:=Ln Pr w) t) v hv)
         simp only[au_] at hst
         obtain⟨m',hm'⟩ : ∃ m',xs.length - n.toNat=m'+1:=⟨xs.length - n.toNat - 1,by omega⟩
         have hcr:(Builtin.clear_ argTypes o.type #[.slice (some ⟨b,n.toNat*t.sz,none⟩) (xs.length - n.toNat) (cap - n.toNat)]).run P w = .ok (.tuple #[]) (w.setRow b (aU cur.toList (n.toNat*t.sz) (W3 (xs.length - n.toNat) (zc t)).flatten).toArray):=by
          unfold Builtin.clear_
          rw[hT0]
          simp only[av_,Y0,U5,run_underlying hu,T6]
          rw[hm'] at hzc2 hst ⊢
          simp only[U5,hzz,T6,hzc2,hst,V0]
          rfl
         simp only[U5,hcr,T6,V0]
     ·cases hc'
    ·cases hc'
   ·cases hc'
  ·cases hc'
 ·cases hc'
end
end Go.Proofs.YtfffplonjaigkaaGreatDoor.Abs
namespace Go.Proofs.YtfffplonjaigkaaGreatDoor.Abs
open Go Go.RowKit
section
variable {L:Lk} {γ γ':Nat→Option G} {f:Nat→Option Nat}
theorem Ct {g:SV→Option SV} (hg : ∀ {t:Ty} {v v':SV} {c:List Value},RT L γ t v c→g v=some v'→RT L γ' t v' c) : ∀ {t:Ty} {l l':List SV} {cs:List Value},eG L γ t l cs→Fj g l=some l'→eG L γ' t l' cs
 | _,_,_,_,.nil,h=>by
  cases h
  exact .nil
 | _,_,_,_,.cons hv k,h=>by
  simp only[Fj,S7] at h
  obtain⟨v',h1,l',h2,he⟩:=h
  cases he
  exact .cons (hg hv h1) (Ct hg k h2)
theorem Py (hf : ∀ r j,f r=some j→γ' j=γ r) {v:SV} {u:Value} (h:R1 L γ v u):R1 L γ' (wt f v) u:=by
 cases h with
 | undef=>exact .undef
 | nilS=>exact .nilS
 | val h=>exact .val h
 | row h =>
  simp only[wt]
  split
  ·rename_i j hj
   exact .row ((hf _ _ hj).trans h)
  ·exact .undef
 | ptr h hp =>
  simp only[wt]
  split
  ·rename_i j hj
   exact .ptr ((hf _ _ hj).trans h) hp
  ·exact .undef
theorem zy (hf : ∀ r j,f r=some j→γ' j=γ r) : ∀ {l:List SV} {us:List Value},vG L γ l us→vG L γ' (l.map (wt f)) us
 | _,_,.nil => .nil
 | _,_,.cons h k => .cons (Py hf h) (zy hf k)
theorem AQ (hf : ∀ r j,f r=some j→γ' j=γ r) : ∀(d:Nat) {t:Ty} {v v':SV} {cs:List Value},RT L γ t v cs→lk f d v=some v'→RT L γ' t v' cs:=by
 intro d
 induction d with
 | zero=>intro t v v' cs _ h; simp[lk] at h
 | succ d ih =>
  intro t v v' cs hv h
  cases hv with
  | val hk =>
   cases h
   exact .val hk
  | nilS =>
   cases h
   exact .nilS
  | row hk =>
   simp only[lk] at h
   split at h
   ·rename_i j hj
    cases h
    exact .row ((hf _ _ hj).trans hk)
   ·cases h
  | strct hk =>
   simp only[lk] at h
   split at h
   ·rename_i l' hl
    cases h
    exact .strct (Ct (fun hv hh=>ih hv hh) hk hl)
   ·cases h
theorem lO {g:SV→SV} (hg : ∀ {v:SV} {u:Value},RV L γ v u→RV L γ' (g v) u) : ∀ {l:List SV} {us:List Value},b8 L γ l us→b8 L γ' (l.map g) us
 | _,_,.nil => .nil
 | _,_,.cons h k => .cons (hg h) (lO hg k)
theorem Dx (hf : ∀ r j,f r=some j→γ' j=γ r) : ∀(d:Nat) {v:SV} {u:Value},RV L γ v u→RV L γ' (kj f d v) u:=by
 intro d
 induction d with
 | zero=>intro v u _; cases v <;> exact .undef
 | succ d ih =>
  intro v u hv
  cases hv with
  | undef=>exact .undef
  | nilS=>exact .nilS
  | val h=>exact .val h
  | row h =>
   simp only[kj]
   split
   ·rename_i j hj
    exact .row ((hf _ _ hj).trans h)
   ·exact .undef
  | ptr h hp =>
   simp only[kj]
   split
   ·rename_i j hj
    exact .ptr ((hf _ _ hj).trans h) hp
   ·exact .undef
  | eptr h hc=>exact .eptr h hc
  | rptr h h0 hn hp =>
   simp only[kj]
   split
   ·rename_i j hj
    exact .rptr ((hf _ _ hj).trans h) h0 hn hp
   ·exact .undef
  | tail h h0 hn hc =>
   simp only[kj]
   split
   ·rename_i j hj
    exact .tail ((hf _ _ hj).trans h) h0 hn hc
   ·exact .undef
  | fn h=>exact .fn (lO ih h)
  | tup h=>exact .tup (lO ih h)
  | strct h =>
   simp only[kj]
   split
   ·rename_i l' hl
    exact .strct (Ct (fun hv hh=>AQ hf d hv hh) h hl)
   ·exact .undef
end
theorem wB : ∀ {ids:List Nat} {r k j:Nat},cP r ids k=some j→k≤j∧ids[j - k]? = some r
 | [],_,_,_,h=>by simp[cP] at h
 | x :: l,r,k,j,h=>by
  unfold cP at h
  split at h
  ·rename_i hb
   cases h
   have:=W2 hb
   subst this
   simp
  ·obtain⟨h1,h2⟩:=wB h
   refine⟨by omega,?_⟩
   rw[show j - k=(j - (k+1))+1 by omega]
   simpa using h2
def lP (f:Nat→Option Nat) (x x':aP):Prop:=(∃ t c c',x = .box t c∧x' = .box t c'∧lk f 9 c=some c')∨(∃ g caps,x = .keepF g caps∧x' = .keepF g (caps.map (wt f)))∨(∃ g caps,x = .rowP g caps∧x' = .rowP g (caps.map (wt f)))∨(x'=x∧(∀ t c,x ≠ .box t c)∧(∀ g caps,x ≠ .keepF g caps) ∧ ∀ g caps,x ≠ .rowP g caps)
theorem lm {o:Option Nat} {j:Nat} (h:NK o j=true):o=some j:=by
 unfold NK at h
 split at h
 ·exact T4 some (W2 h)
 ·cases h
theorem fq {k r:Nat} {v:aP} {l:aB}:ay ((k,v) :: l) r=if k=r then some v else ay l r:=by
 show(match Y3 k r with | true=>some v | false=>ay l r)=_
 by_cases h:k=r
 ·subst h
  simp
 ·have:Y3 k r=false:=by
   cases hb:Y3 k r with
   | false=>rfl
   | true=>exact V2 (W2 hb) h
  rw[this,S4 h]
theorem wC {res:aB} {f:Nat→Option Nat} : ∀ {ids:List Nat} {k j:Nat} {x':aP},ay (cj res f ids k) j=some x' → ∃ r x,f r=some j∧ay res r=some x∧lP f x x'∧k≤j∧ids[j - k]? = some r
 | [],_,_,_,h=>by simp[cj,ay] at h
 | r :: l,k,j,x',h=>by
  have rest:ay (cj res f l (k+1)) j=some x' → ∃ s x,f s=some j∧ay res s=some x∧lP f x x'∧k≤j∧(r :: l)[j - k]? = some s:=fun h=>by
   obtain⟨s,x,h1,h2,h3,h4,h5⟩:=wC h
   refine⟨s,x,h1,h2,h3,by omega,?_⟩
   rw[show j - k=(j - (k+1))+1 by omega]
   simpa using h5
  unfold cj at h
  split at h
  ·rename_i t c hg hh
   split at h
   ·rename_i c' hc
    rw[fq] at h
    split at h
    ·rename_i hk
     subst hk
     cases h
     exact⟨r,_,lm hh,hg,.inl ⟨t,c,c',rfl,rfl,hc⟩,T7 _,by simp⟩
    ·exact rest h
   ·exact rest h
  ·rename_i g caps hg hh
   rw[fq] at h
   split at h
   ·rename_i hk
    subst hk
    cases h
    exact⟨r,_,lm hh,hg,.inr (.inl ⟨g,caps,rfl,rfl⟩),T7 _,by simp⟩
   ·exact rest h
  ·rename_i g caps hg hh
   rw[fq] at h
   split at h
   ·rename_i hk
    subst hk
    cases h
    exact⟨r,_,lm hh,hg,.inr (.inr (.inl ⟨g,caps,rfl,rfl⟩)),T7 _,by simp⟩
   ·exact rest h
  ·exact rest h
  ·rename_i v hne hne' hne2 _ hg hh
   rw[fq] at h
   split at h
   ·rename_i hk
    subst hk
    cases h
    exact⟨r,_,lm hh,hg,.inr (.inr (.inr ⟨rfl,fun t c he=>hne t c (by rw[he]),fun g caps he=>hne' g caps (by rw[he]),fun g caps he=>hne2 g caps (by rw[he])⟩)),T7 _,by simp⟩
   ·exact rest h
  ·exact rest h
section
variable {w0:World} {X:Nat→Prop} {Pr0:Nat→Nat→Prop} {sl sl':List SV} {get get':Nat→Option aP} {γ γ':Nat→Option G} {Pr:Nat→Nat→Prop} {a:Act} {w:World} {f:Nat→Option Nat}
theorem lP.ok {L:Lk} {x x':aP} {r j:Nat} (h:lP f x x') (hf : ∀ r j,f r=some j→γ' j=γ r) (hj:f r=some j) (hx:gC L Pr γ w r x):gC L Pr γ' w j x'∧bj γ' j x'=bj γ r x∧fX x'=fX x:=by
 have hγ:=hf _ _ hj
 rcases h with⟨t,c,c',rfl,rfl,hc⟩ | ⟨g,caps,rfl,rfl⟩ | ⟨g,caps,rfl,rfl⟩ | ⟨rfl,hne,hne',hne2⟩
 ·obtain⟨b,arr,T,h1,h2,h3⟩:=hx
  refine⟨⟨b,arr,T,hγ.trans h1,h2,h3.map fun _ h=>AQ hf 9 h hc⟩,?_,?_⟩
  ·simp only[bj,hγ]
  ·funext o
   rfl
 ·obtain⟨b,vs,h1,h2,h3⟩:=hx
  refine⟨⟨b,vs,hγ.trans h1,h2,zy hf h3⟩,rfl,?_⟩
  funext o
  rfl
 ·obtain⟨b,vs,h1,h2,h3⟩:=hx
  refine⟨⟨b,vs,by rw[hγ,h1,List.length_map],zy hf h2,h3⟩,rfl,?_⟩
  funext o
  rfl
 ·refine⟨?_,?_,rfl⟩
  ·cases x' with
   | box t c=>exact V2 rfl (hne t c)
   | row e t xs fr =>
    obtain⟨v,css,h1,h2,h3,h4⟩:=hx
    exact⟨v,css,hγ.trans h1,h2,h3,h4⟩
   | old e t xs =>
    obtain⟨v,h1,h2⟩:=hx
    exact⟨v,hγ.trans h1,h2⟩
   | gone e t n =>
    obtain⟨A,c,h1⟩:=hx
    exact⟨A,c,hγ.trans h1⟩
   | keepF g caps=>exact V2 rfl (hne' g caps)
   | rowP g caps=>exact V2 rfl (hne2 g caps)
  ·cases x' <;> simp only[bj,hγ]
theorem bn.renum (hI:bn w0 X Pr0 sl get γ Pr a w) (hs:b8 (Ln Pr w) γ' sl' a.tmps.toList) (hf : ∀ r j,f r=some j→γ' j=γ r) (hγ : ∀ j g,γ' j=some g → ∃ r,γ r=some g)
  (hg : ∀ j x',get' j=some x' → ∃ r x,f r=some j∧get r=some x∧lP f x x'):bn w0 X Pr0 sl' get' γ' Pr a w:=by
 have key : ∀ j x',get' j=some x' → ∃ r x,f r=some j∧get r=some x∧gC (Ln Pr w) Pr γ' w j x'∧bj γ' j x'=bj γ r x∧fX x'=fX x:=by
  intro j x' h
  obtain⟨r,x,h1,h2,h3⟩:=hg j x' h
  exact⟨r,x,h1,h2,h3.ok hf h1 (hI.res r x h2)⟩
 constructor
 case slots=>exact hs
 case defers=>exact hI.defers
 case gs =>
  intro r e t v h
  obtain⟨s,h⟩:=hγ _ _ h
  exact hI.gs s e t v h
 case wfs =>
  intro r b t h
  obtain⟨s,h⟩:=hγ _ _ h
  exact hI.wfs s b t h
 case res =>
  intro j x h
  obtain⟨r,y,_,_,h1,_⟩:=key j x h
  exact h1
 case apart =>
  intro j j' x x' b h h' hne hb
  obtain⟨r,y,h1,h2,_,h3,_⟩:=key j x h
  obtain⟨r',y',h1',h2',_,h3',_⟩:=key j' x' h'
  rw[h3']
  rw[h3] at hb
  refine hI.apart r r' y y' b h2 h2' (fun e=>hne ?_) hb
  subst e
  rw[h1] at h1'
  exact X0 h1'
 case loose =>
  intro j x b h hb o ho
  obtain⟨r,y,h1,h2,_,h3,h4⟩:=key j x h
  rw[h3] at hb
  rw[h4]
  exact hI.loose r y b h2 hb o ho
 case where_ =>
  intro j x b h hb
  obtain⟨r,y,h1,h2,_,h3,h4⟩:=key j x h
  rw[h3] at hb
  exact hI.where_ r y b h2 hb
 case frame=>exact hI.frame
 case size=>exact hI.size
 case os=>exact hI.os
 case tape=>exact hI.tape
 case output=>exact hI.output
 case prIn=>exact hI.prIn
 case prOld=>exact hI.prOld
 case pr0=>exact hI.pr0
theorem I2 {L:Lk} (live:List Nat) : ∀ {sl:List SV} {us:List Value} (n:Nat),b8 L γ sl us→b8 L γ (oq live n sl) us
 | _,_,_,.nil => .nil
 | _,_,n,.cons h k=>by
  unfold oq
  refine .cons ?_ (I2 live (n+1) k)
  split
  ·exact h
  ·exact .undef
theorem bn.norm {σ:St} (hI:bn w0 X Pr0 σ.slots (ay σ.res) γ Pr a w) (live:List Nat) : ∃ γ',bn w0 X Pr0 (norm live σ).slots (ay (norm live σ).res) γ' Pr a w∧(∀ r,(norm live σ).nx≤r→γ' r=none) ∧ ∀ r s,(iP σ.res (oq live 0 σ.slots) (lG σ.n0))[r]? = some s→γ' r=γ s:=by
 refine⟨fun j=>((iP σ.res (oq live 0 σ.slots) (lG σ.n0))[j]?).bind γ,?_,?_,fun r s h=>by simp only[h,S1]⟩
 ·have hf : ∀ r j,cP r (iP σ.res (oq live 0 σ.slots) (lG σ.n0)) 0=some j→((iP σ.res (oq live 0 σ.slots) (lG σ.n0))[j]?).bind γ=γ r:=by
   intro r j h
   obtain⟨_,h⟩:=wB h
   rw[Nat.sub_zero] at h
   rw[h]
   rfl
  refine hI.renum (lO (fun h=>Dx hf 9 h) (I2 live 0 hI.slots)) hf ?_ ?_
  ·intro j g h
   rw[S7] at h
   obtain⟨r,_,h⟩:=h
   exact⟨r,h⟩
  ·intro j x' h
   obtain⟨r,x,h1,h2,h3,_⟩:=wC h
   exact⟨r,x,h1,h2,h3⟩
 ·intro r hr
  have:(iP σ.res (oq live 0 σ.slots) (lG σ.n0))[r]? = none:=Z5 hr
  show((iP σ.res (oq live 0 σ.slots) (lG σ.n0))[r]?).bind γ=none
  rw[this]
  rfl
end
end Go.Proofs.YtfffplonjaigkaaGreatDoor.Abs
namespace Go.Proofs.YtfffplonjaigkaaGreatDoor.Abs
open Go Go.RowKit
def iC (tab:aB) (γ:Nat→Option G) (k:Nat):Prop := ∃ j x,ay tab j=some x∧bj γ j x=some k
def wD:List Value→Value
 | [v]=>v
 | l => .tuple l.toArray
abbrev iY (u:Up):Nat→Option aP:=bo (fun _=>none) u
structure rS (w:World) (X:Nat→Prop) (γ:Nat→Option G) (Pr:Nat→Nat→Prop) (N M:Nat) (sv:List SV) (ub:List (Option aP)) (un:Up) (vs:List Value) (γr:Nat→Option G) (Pr':Nat→Nat→Prop) (w':World):Prop where
 vals:b8 (Ln Pr' w') γr sv vs
 lim : ∀ r g,γr r=some g→(N≤r∧r < M)∧((∃ e t A n c,g = .row e t (.slice A n c)) ∨ ∃ b t,g = .box b t∧cJ false t=true)
 box : ∀ j t c,ub[j]? = some (some (.box t c)) → ∃ b arr T,γ j=some (.box b t)∧w'.heap[b]? = some (.cells arr T (0,0))∧kE (Ln Pr' w') γr b T t c arr.toList
 row : ∀ r x,iY un r=some x→N≤r∧r < M∧gC (Ln Pr' w') Pr' γr w' r x
 apart : ∀ r r' x x' b,iY un r=some x→iY un r'=some x'→r≠r'→bj γr r x=some b→bj γr r' x'≠some b
 beside : ∀ j t c b,ub[j]? = some (some (.box t c))→γ j=some (.box b t) → ∀ r x,iY un r=some x→bj γr r x≠some b
 boxLoose : ∀ j t c b,ub[j]? = some (some (.box t c))→γ j=some (.box b t) → ∀ o,¬Pr' b o
 rowLoose : ∀ r x b,iY un r=some x→bj γr r x=some b → ∀ o,Pr' b o→fX x o
 where_ : ∀ r x b,iY un r=some x→bj γr r x=some b→X b∨w.heap.size≤b
 frame : ∀ k,k < w.heap.size → ¬X k→w'.heap[k]? = w.heap[k]?
 size:w.heap.size≤w'.heap.size
 os:w'.os=w.os
 tape:w'.tape=w.tape
 output:w'.output=w.output
 prIn : ∀ b o,Pr' b o→b < w'.heap.size
 prOld : ∀ b,b < w.heap.size → ¬X b → ∀ o,Pr' b o→Pr b o
 lean : ∀ b o v,Ln Pr w b o v→Ln Pr' w' b o v
abbrev WP:=World→(Nat→Prop)→Prop
def kF (w0:World) (X:Nat→Prop):WP:=fun w X' => ∀ k,k < w0.heap.size → ¬X k→k < w.heap.size ∧ ¬X' k∧w.heap[k]? = w0.heap[k]?
def AR (Gp:WP):Prop := ∀ w0 X w X',Gp w0 X→kF w0 X w X'→Gp w X'
def cN (Gp:WP) (P:Program) (I:ap) (args:List SV) (tab:aB) (z:I.sh.den×I.bx.den):Prop :=
 (∀(k:Nat) (p:Nat×aP),tab[k]? = some p→p.1=k) → ∀(w:World) (γ:Nat→Option G) (Pr:Nat→Nat→Prop) (us:List Value),Gp w (iC tab γ)→bn w (iC tab γ) Pr args (ay tab) γ Pr {tmps:=us.toArray,defers:=[]} w→(∀ r,tab.length≤r→γ r=none) →
  ∀ N,tab.length≤N → ∀(vs:List SV) (u:Up) (n:Nat) (bs:List SV) (u':Up) (n':Nat) (ub:List (Option aP)),bG I.sh z.1 N=(vs,u,n)→bG I.bx z.2 n=(bs,u',n')→bX I.rb tab bs (nk I.bx)=some ub →
   Calls P I.g us.toArray w fun e w' => ∃ vals γr Pr',e = .returned (wD vals)∧rS w (iC tab γ) γ Pr N n' vs ub (u++u') vals γr Pr' w' ∧ ∀ p∈cE I.rb tab bs,γr p.1=γ p.2
def ig (Gp:WP) (P:Program) (E:ce) (call:(I:ap)→List SV→aB→Option (I.sh.den×I.bx.den)):Prop :=
 ∀(I:ap) (args:List SV) (tab:aB) (z:I.sh.den×I.bx.den) (key:Nat),cD E.fns key=some I→call I args tab=some z→cN Gp P I args tab z
theorem ig.weaken {Gp Gq:WP} {P:Program} {E:ce} {call:(I:ap)→List SV→aB→Option (I.sh.den×I.bx.den)} (h:ig Gp P E call) (hw : ∀ w X,Gq w X→Gp w X):ig Gq P E call :=
 fun I args tab z key hk hc hcanon w γ Pr us hG=>h I args tab z key hk hc hcanon w γ Pr us (hw _ _ hG)
def sW (Gp:WP) (P:Program) (E:ce):Prop := ∀(I:ap) (f:List SV→aB→Option (I.sh.den×I.bx.den)) (key:Nat),cD E.fns key=some I→I.prim=some f → ∀(args:List SV) (tab:aB) (z:I.sh.den×I.bx.den),f args tab=some z→cN Gp P I args tab z
section
theorem zz {get:Nat→Option aP} : ∀ {ids:List Nat} {ub:List (Option aP)},(∀ j j' r:Nat,ids[j]? = some r→ids[j']? = some r→j=j') →
  (∀(j r:Nat) (x:Option aP),ids[j]? = some r→ub[j]? = some x→bo get (ids.zip ub) r=x)∧(∀ r,r ∉ ids→bo get (ids.zip ub) r=get r)
 | [],ub,_=>⟨fun j r x h=>by simp at h,fun r _=>rfl⟩
 | i :: ids,[],_=>⟨fun j r x _ h=>by simp at h,fun r _=>rfl⟩
 | i :: ids,y :: ub,hnd=>by
  have ih:=zz (get:=fun s=>if s=i then y else get s) (ids:=ids) (ub:=ub) (fun j j' r h h'=>by
   have:=hnd (j+1) (j'+1) r (by simpa using h) (by simpa using h')
   omega)
  have hi:i ∉ ids:=by
   intro h
   obtain⟨j,hj,he⟩:=Z9 h
   have:=hnd 0 (j+1) i (by simp) (by simp[T9 hj,he])
   omega
  refine⟨fun j r x h h' => ?_,fun r hr => ?_⟩
  ·cases j with
   | zero =>
    simp at h h'
    subst h h'
    show bo (fun s=>if s=i then y else get s) (ids.zip ub) i=y
    rw[ih.2 i hi]
    exact S6 rfl
   | succ j=>exact ih.1 j r x (by simpa using h) (by simpa using h')
  ·show bo (fun s=>if s=i then y else get s) (ids.zip ub) r=get r
   rw[ih.2 r (fun h=>hr (T8 _ h))]
   exact S4 (fun e=>hr (by simp[e]))
theorem sX : ∀ {u:Up} {get:Nat→Option aP} {r:Nat},(∀ p∈u,p.2.isSome=true)→bo get u r=match iY u r with | some x=>some x | none=>get r
 | [],get,r,_=>rfl
 | (k,x) :: u,get,r,hs=>by
  have hs' : ∀ p∈u,p.2.isSome=true:=fun p hp=>hs p (T8 _ hp)
  show bo (fun s=>if s=k then x else get s) u r=match bo (fun s=>if s=k then x else none) u r with | some x=>some x | none=>get r
  rw[sX (get:=fun s=>if s=k then x else get s) hs',sX (get:=fun s=>if s=k then x else none) hs']
  cases iY u r with
  | some y=>rfl
  | none =>
   simp only
   by_cases hr:r=k
   ·rw[S6 hr,S6 hr]
    have:=hs (k,x) (by simp)
    cases x with
    | none=>cases this
    | some y=>rfl
   ·rw[S4 hr,S4 hr]
end
section
variable {P:Program} {E:ce} {call:(I:ap)→List SV→aB→Option (I.sh.den×I.bx.den)} {w0:World} {X:Nat→Prop} {Pr0:Nat→Nat→Prop} {sl:List SV} {get:Nat→Option aP} {γ:Nat→Option G} {Pr:Nat→Nat→Prop}
 {a:Act} {w:World} {res:aB} {r0:Nat} {o:Oper} {vs:List SV} {v:SV} {u:Up}
theorem bn.enter (hI:bn w0 X Pr0 sl get γ Pr a w) {γ':Nat→Option G} {args:List SV} {us:List Value} {tab:aB} {f:Nat→Option Nat} (hs:b8 (Ln Pr w) γ' args us) (hf : ∀ r j,f r=some j→γ' j=γ r) (hγ : ∀ j g,γ' j=some g → ∃ r,γ r=some g)
  (hg : ∀ j x',ay tab j=some x' → ∃ r x,f r=some j∧get r=some x∧lP f x x'):bn w (iC tab γ') Pr args (ay tab) γ' Pr {tmps:=us.toArray,defers:=[]} w:=by
 have hI':bn w0 X Pr0 [] get γ Pr {tmps := #[],defers:=[]} w:=⟨.nil,rfl,hI.gs,hI.wfs,hI.res,hI.apart,hI.loose,hI.where_,hI.frame,hI.size,hI.os,hI.tape,hI.output,hI.prIn,hI.prOld,hI.pr0⟩
 have hR:=hI'.renum (sl':=[]) (get':=ay tab) (γ':=γ') (f:=f) .nil hf hγ hg
 exact⟨hs,rfl,hR.gs,hR.wfs,hR.res,hR.apart,hR.loose,fun r x b h hb => .inl ⟨r,x,h,hb⟩,fun _ _ _=>rfl,T7 _,rfl,rfl,rfl,hI.prIn,fun _ _ _ _ h=>h,fun _ _ _ h=>h⟩
theorem bn.back (hI:bn w0 X Pr0 sl get γ Pr a w) {ids:List Nat} {tab:aB} {N M:Nat} {sv:List SV} {ub:List (Option aP)} {un:Up} {vals:List Value} {γr:Nat→Option G} {Pr':Nat→Nat→Prop} {w':World}
  (hnd : ∀ j j' r:Nat,ids[j]? = some r→ids[j']? = some r→j=j') (hlen:ub.length=ids.length)
  (hX : ∀ b,iC tab (fun j=>(ids[j]?).bind γ) b ↔ ∃ r x,r∈ids∧get r=some x∧bj γ r x=some b)
  (hbox : ∀(j:Nat) (y:aP),ub[j]? = some (some y) → ∃(t:Ty) (c:SV) (r:Nat) (c0:SV),y=aP.box t c∧ids[j]? = some r∧get r=some (.box t c0))
  (hfree : ∀ r,N≤r→r < M→γ r=none) (hun : ∀ p∈un,p.2.isSome=true)
  (hB:rS w (iC tab fun j=>(ids[j]?).bind γ) (fun j=>(ids[j]?).bind γ) Pr N M sv ub un vals γr Pr' w') :
  bn w0 X Pr0 sl (bo get (ids.zip ub++un)) (fun r=>if N≤r∧r < M then γr r else γ r) Pr' a w'∧b8 (Ln Pr' w') (fun r=>if N≤r∧r < M then γr r else γ r) sv vals:=by
 have hext : ∀ r g,γ r=some g→(if N≤r∧r < M then γr r else γ r)=some g:=fun r g h=>by
  by_cases hr:N≤r∧r < M
  ·rw[hfree r hr.1 hr.2] at h
   cases h
  ·rw[S4 hr]
   exact h
 have hextr : ∀ r g,γr r=some g→(if N≤r∧r < M then γr r else γ r)=some g:=fun r g h=>by
  rw[S6 (hB.lim r g h).1]
  exact h
 have hblkr : ∀ r x,N≤r∧r < M→bj (fun r=>if N≤r∧r < M then γr r else γ r) r x=bj γr r x:=fun r x h=>mK (S6 h)
 have hblko : ∀ r x,¬(N≤r∧r < M)→bj (fun r=>if N≤r∧r < M then γr r else γ r) r x=bj γ r x:=fun r x h=>mK (S4 h)
 have hno : ∀ r x,get r=some x → ¬(N≤r∧r < M):=fun r x h hr=>by
  obtain⟨g,hg⟩:=(hI.res r x h).γsome
  rw[hfree r hr.1 hr.2] at hg
  cases hg
 have hcase : ∀ r x,bo get (ids.zip ub++un) r=some x→(iY un r=some x∧N≤r∧r < M)∨(¬(N≤r∧r < M)∧r∈ids ∧ ∃(j:Nat) (t:Ty) (c c0:SV),ids[j]? = some r∧ub[j]? = some (some x)∧x=aP.box t c∧get r=some (.box t c0))∨(¬(N≤r∧r < M)∧r ∉ ids∧get r=some x):=by
  intro r x h
  rw[cp,sX hun] at h
  cases hn:iY un r with
  | some y =>
   rw[hn] at h
   cases h
   have:=hB.row r x hn
   exact .inl ⟨rfl,this.1,this.2.1⟩
  | none =>
   rw[hn] at h
   simp only at h
   obtain⟨h1,h2⟩:=zz (get:=get) (ub:=ub) hnd
   by_cases hr:r∈ids
   ·obtain⟨j,hj,he⟩:=Z9 hr
    have hj':ids[j]? = some r:=by rw[T9 hj,he]
    have hju:ub[j]? = some ub[j]:=T9 (by omega)
    rw[h1 j r _ hj' hju] at h
    rw[h] at hju
    obtain⟨t,c,r',c0,hx,hr',hg⟩:=hbox j x hju
    rw[hj'] at hr'
    cases hr'
    exact .inr (.inl ⟨hno r _ hg,hr,j,t,c,c0,hj',hju,hx,hg⟩)
   ·rw[h2 r hr] at h
    exact .inr (.inr ⟨hno r _ h,hr,h⟩)
 have hbox2 : ∀ {r j:Nat} {t:Ty} {c:SV},ids[j]? = some r→ub[j]? = some (some (.box t c)) → ∃ b arr T,γ r=some (.box b t)∧w'.heap[b]? = some (.cells arr T (0,0))∧kE (Ln Pr' w') γr b T t c arr.toList:=by
  intro r j t c hj hu
  obtain⟨b,arr,T,h1,h2⟩:=hB.box j t c hu
  simp only[hj,S1] at h1
  exact⟨b,arr,T,h1,h2⟩
 have hstay : ∀ r x b,r ∉ ids→get r=some x→bj γ r x=some b → ¬iC tab (fun j=>(ids[j]?).bind γ) b:=by
  intro r x b hr hx hb hXb
  obtain⟨r',x',h1,h2,h3⟩:=(hX b).1 hXb
  exact hI.apart r r' x x' b hx h2 (fun e=>hr (e ▸ h1)) hb h3
 constructor
 ·constructor
  case slots=>exact eY hB.lean hext hI.slots
  case defers=>exact hI.defers
  case gs =>
   intro r e t v h
   by_cases hr:N≤r∧r < M
   ·rw[S6 hr] at h
    obtain⟨_,⟨e',t',A,n,c,he⟩ | ⟨b',t',he,_⟩⟩:=hB.lim r _ h
    ·cases he
     exact⟨A,n,c,rfl⟩
    ·cases he
   ·rw[S4 hr] at h
    exact hI.gs r e t v h
  case wfs =>
   intro r b t h
   by_cases hr:N≤r∧r < M
   ·rw[S6 hr] at h
    obtain⟨_,⟨e',t',A,n,c,he⟩ | ⟨b',t',he,hw⟩⟩:=hB.lim r _ h
    ·cases he
    ·cases he
     exact hw
   ·rw[S4 hr] at h
    exact hI.wfs r b t h
  case res =>
   intro r x h
   rcases hcase r x h with⟨h1,h2⟩ | ⟨h1,h2,j,t,c,c0,h3,h4,rfl,h5⟩ | ⟨h1,h2,h3⟩
   ·exact(hB.row r x h1).2.2.kept (fun _ _ _ h=>h) (fun _ _ h=>h) hextr ⟨rfl,rfl,rfl,T7 _,fun _ _ _=>rfl⟩ (row:=none) (fun b hb=>by cases hb)
   ·obtain⟨b,arr,T,h6,h7,h8⟩:=hbox2 h3 h4
    exact⟨b,arr,T,hext r _ h6,h7,h8.map fun _ h=>mI (fun _ _ _ h=>h) hextr h⟩
   ·have hk:=hI.res r x h3
    cases x with
    | box t c =>
     obtain⟨b,arr,T,h4,h5,h6⟩:=hk
     have hb:bj γ r (.box t c)=some b:=by simp[bj,h4]
     refine⟨b,arr,T,hext r _ h4,?_,h6.map fun _ h=>mI hB.lean hext h⟩
     rw[hB.frame b (V8.1 h5).1 (hstay r _ b h2 h3 hb)]
     exact h5
    | row e t xs fr =>
     obtain⟨v,css,h4,h5,h6,h7⟩:=hk
     refine⟨v,css,hext r _ h4,jk hB.lean h5,?_,?_⟩
     ·refine⟨h6.1,?_⟩
      rcases h6.2 with hn | ⟨g,cap,cur,rfl,hb0,hgg,rest⟩
      ·exact .inl hn
      ·refine .inr ⟨g,cap,cur,rfl,hb0,?_,rest⟩
       have hb:bj γ r (.row e t xs fr)=some g:=by simp[bj,h4,ao_]
       rw[hB.frame g (V8.1 hgg).1 (hstay r _ g h2 h3 hb)]
       exact hgg
     ·intro hf b hb o ho
      have hp:=h7 hf b hb o ho
      have hpin:=hI.prIn b o hp
      have hcell : ∃ z,w.cell? ⟨b,o,none⟩=some z:=by
       have hlt:o < css.flatten.length:=by rw[h5.flat]; exact ho
       refine⟨css.flatten[o],?_⟩
       have:=h6.cells (g:=b) hb o _ (T9 hlt)
       rwa[add_lit,Y5] at this
      obtain⟨z,hz⟩:=hcell
      exact(hB.lean b o z ⟨hp,hz⟩).1
    | old e t xs =>
     obtain⟨v,h4,h5⟩:=hk
     exact⟨v,hext r _ h4,eP hB.lean h5⟩
    | gone e t n =>
     obtain⟨A,c,h4⟩:=hk
     exact⟨A,c,hext r _ h4⟩
    | keepF g caps =>
     obtain⟨b,vs,h4,h5,h6⟩:=hk
     exact⟨b,vs,hext r _ h4,hB.lean _ _ _ h5,jj hB.lean hext h6⟩
    | rowP e l =>
     obtain⟨b,vs,h4,h5,h6⟩:=hk
     exact⟨b,vs,hext r _ h4,jj hB.lean hext h5,fun j v hj=>hB.lean _ _ _ (h6 j v hj)⟩
  case apart =>
   intro r r' x x' b h h' hne hb
   have keyb : ∀ {r:Nat} {x:aP} {b:Nat},r∈ids→(∃(j:Nat) (t:Ty) (c c0:SV),ids[j]? = some r∧ub[j]? = some (some x)∧x=aP.box t c∧get r=some (.box t c0))→bj γ r x=some b → ∃(j:Nat) (t:Ty) (c:SV),ids[j]? = some r∧ub[j]? = some (some (.box t c))∧γ r=some (.box b t) ∧ ∃ y,get r=some y∧bj γ r y=some b:=by
    intro r x b _ ⟨j,t,c,c0,h3,h4,hx,h5⟩ hb
    subst hx
    obtain⟨b',arr,T,h6,_⟩:=hbox2 h3 h4
    have:b'=b:=by simpa[bj,h6] using hb
    subst this
    exact⟨j,t,c,h3,h4,h6,_,h5,by simp[bj,h6]⟩
   rcases hcase r x h with⟨h1,h2⟩ | ⟨h1,h2,h3⟩ | ⟨h1,h2,h3⟩ <;> rcases hcase r' x' h' with⟨k1,k2⟩ | ⟨k1,k2,k3⟩ | ⟨k1,k2,k3⟩
   ·rw[hblkr r x h2] at hb
    rw[hblkr r' x' k2]
    exact hB.apart r r' x x' b h1 k1 hne hb
   ·rw[hblkr r x h2] at hb
    rw[hblko r' x' k1]
    intro hb'
    obtain⟨j,t,c,e1,e2,e3,_⟩:=keyb k2 k3 hb'
    exact hB.beside j t c b e2 (by simp[e1,e3]) r x h1 hb
   ·rw[hblkr r x h2] at hb
    rw[hblko r' x' k1]
    intro hb'
    rcases hB.where_ r x b h1 hb with hw | hw
    ·exact hstay r' x' b k2 k3 hb' hw
    ·have:=(hI.res r' x' k3).lt hb'
     omega
   ·rw[hblko r x h1] at hb
    rw[hblkr r' x' k2]
    intro hb'
    obtain⟨j,t,c,e1,e2,e3,_⟩:=keyb h2 h3 hb
    exact hB.beside j t c b e2 (by simp[e1,e3]) r' x' k1 hb'
   ·rw[hblko r x h1] at hb
    rw[hblko r' x' k1]
    intro hb'
    obtain⟨_,_,_,_,_,_,y,e4,e5⟩:=keyb h2 h3 hb
    obtain⟨_,_,_,_,_,_,y',e4',e5'⟩:=keyb k2 k3 hb'
    exact hI.apart r r' y y' b e4 e4' hne e5 e5'
   ·rw[hblko r x h1] at hb
    rw[hblko r' x' k1]
    intro hb'
    obtain⟨_,_,_,_,_,_,y,e4,e5⟩:=keyb h2 h3 hb
    exact hI.apart r r' y x' b e4 k3 hne e5 hb'
   ·rw[hblko r x h1] at hb
    rw[hblkr r' x' k2]
    intro hb'
    rcases hB.where_ r' x' b k1 hb' with hw | hw
    ·exact hstay r x b h2 h3 hb hw
    ·have:=(hI.res r x h3).lt hb
     omega
   ·rw[hblko r x h1] at hb
    rw[hblko r' x' k1]
    intro hb'
    obtain⟨_,_,_,_,_,_,y',e4',e5'⟩:=keyb k2 k3 hb'
    exact hI.apart r r' x y' b h3 e4' hne hb e5'
   ·rw[hblko r x h1] at hb
    rw[hblko r' x' k1]
    exact hI.apart r r' x x' b h3 k3 hne hb
  case loose =>
   intro r x b h hb o ho
   rcases hcase r x h with⟨h1,h2⟩ | ⟨h1,h2,j,t,c,c0,h3,h4,rfl,h5⟩ | ⟨h1,h2,h3⟩
   ·rw[hblkr r x h2] at hb
    exact hB.rowLoose r x b h1 hb o ho
   ·rw[hblko r _ h1] at hb
    obtain⟨b',arr,T,h6,_⟩:=hbox2 h3 h4
    have:b'=b:=by simpa[bj,h6] using hb
    subst this
    exact V2 ho (hB.boxLoose j t c b' h4 (by simp[h3,h6]) o)
   ·rw[hblko r x h1] at hb
    exact hI.loose r x b h3 hb o (hB.prOld b ((hI.res r x h3).lt hb) (hstay r x b h2 h3 hb) o ho)
  case where_ =>
   intro r x b h hb
   rcases hcase r x h with⟨h1,h2⟩ | ⟨h1,h2,j,t,c,c0,h3,h4,rfl,h5⟩ | ⟨h1,h2,h3⟩
   ·rw[hblkr r x h2] at hb
    rcases hB.where_ r x b h1 hb with hw | hw
    ·obtain⟨r',x',_,e2,e3⟩:=(hX b).1 hw
     exact hI.where_ r' x' b e2 e3
    ·exact .inr (W7 hI.size hw)
   ·rw[hblko r _ h1] at hb
    refine hI.where_ r _ b h5 ?_
    obtain⟨b',arr,T,h6,_⟩:=hbox2 h3 h4
    have:b'=b:=by simpa[bj,h6] using hb
    subst this
    simp[bj,h6]
   ·rw[hblko r x h1] at hb
    exact hI.where_ r x b h3 hb
  case frame =>
   intro k hk hx
   have hnX : ¬iC tab (fun j=>(ids[j]?).bind γ) k:=by
    intro hXk
    obtain⟨r',x',_,e2,e3⟩:=(hX k).1 hXk
    rcases hI.where_ r' x' k e2 e3 with h | h
    ·exact hx h
    ·omega
   rw[hB.frame k (X1 hk hI.size) hnX]
   exact hI.frame k hk hx
  case size=>exact W7 hI.size hB.size
  case os=>exact hB.os.trans hI.os
  case tape=>exact hB.tape.trans hI.tape
  case output=>exact hB.output.trans hI.output
  case prIn=>exact hB.prIn
  case prOld =>
   intro b hb hx o ho
   have hnX : ¬iC tab (fun j=>(ids[j]?).bind γ) b:=by
    intro hXk
    obtain⟨r',x',_,e2,e3⟩:=(hX b).1 hXk
    rcases hI.where_ r' x' b e2 e3 with h | h
    ·exact hx h
    ·omega
   exact hI.prOld b hb hx o (hB.prOld b (X1 hb hI.size) hnX o ho)
  case pr0=>exact fun b o v h=>hB.lean _ _ _ (hI.pr0 b o v h)
 ·exact eY (fun _ _ _ h=>h) hextr hB.vals
theorem bn.move (hI:bn w0 X Pr0 sl get γ Pr a w) {m r:Nat} {x:aP} (hm:get m=some x) (hr:get r=none) (hγ:γ r=γ m):bn w0 X Pr0 sl (fun s=>if s=r then some x else if s=m then none else get s) γ Pr a w:=by
 have hb : ∀ {s:Nat} {y:aP},(if s=r then some x else if s=m then none else get s)=some y → ∃ s',get s'=some y∧γ s=γ s'∧(s=r→s'=m)∧(s≠r→s'=s∧s≠m):=by
  intro s y h
  by_cases h1:s=r
  ·rw[S6 h1] at h
   cases h
   exact⟨m,hm,by rw[h1,hγ],fun _=>rfl,fun h=>V2 h1 h⟩
  ·rw[S4 h1] at h
   by_cases h2:s=m
   ·rw[S6 h2] at h
    cases h
   ·rw[S4 h2] at h
    exact⟨s,h,rfl,fun h=>V2 h h1,fun _=>⟨rfl,h2⟩⟩
 have hk : ∀ {s s':Nat} {y:aP},γ s=γ s'→bj γ s y=bj γ s' y:=fun h=>by rename_i y; cases y <;> simp only[bj,h]
 refine⟨hI.slots,hI.defers,hI.gs,hI.wfs,?_,?_,?_,?_,hI.frame,hI.size,hI.os,hI.tape,hI.output,hI.prIn,hI.prOld,hI.pr0⟩
 ·intro s y h
  obtain⟨s',h1,h2,_⟩:=hb h
  have:=hI.res s' y h1
  cases y with
  | box t c =>
   obtain⟨b,arr,T,h3,h4⟩:=this
   exact⟨b,arr,T,h2.trans h3,h4⟩
  | row e t xs fr =>
   obtain⟨v,css,h3,h4⟩:=this
   exact⟨v,css,h2.trans h3,h4⟩
  | old e t xs =>
   obtain⟨v,h3,h4⟩:=this
   exact⟨v,h2.trans h3,h4⟩
  | gone e t n =>
   obtain⟨A,c,h3⟩:=this
   exact⟨A,c,h2.trans h3⟩
  | keepF g caps =>
   obtain⟨b,vs,h3,h4⟩:=this
   exact⟨b,vs,h2.trans h3,h4⟩
  | rowP e l =>
   obtain⟨b,vs,h3,h4⟩:=this
   exact⟨b,vs,h2.trans h3,h4⟩
 ·intro s s1 y y1 b h h' hne hbb
  obtain⟨s',h1,h2,h3,h4⟩:=hb h
  obtain⟨s1',h1',h2',h3',h4'⟩:=hb h'
  rw[hk h2] at hbb
  rw[hk h2']
  refine hI.apart s' s1' y y1 b h1 h1' ?_ hbb
  by_cases e1:s=r <;> by_cases e2:s1=r
  ·exact V2 (e1.trans e2.symm) hne
  ·rw[h3 e1,(h4' e2).1]
   exact fun e=>(h4' e2).2 e.symm
  ·rw[h3' e2,(h4 e1).1]
   exact(h4 e1).2
  ·rw[(h4 e1).1,(h4' e2).1]
   exact hne
 ·intro s y b h hbb
  obtain⟨s',h1,h2,_⟩:=hb h
  rw[hk h2] at hbb
  exact hI.loose s' y b h1 hbb
 ·intro s y b h hbb
  obtain⟨s',h1,h2,_⟩:=hb h
  rw[hk h2] at hbb
  exact hI.where_ s' y b h1 hbb
theorem FF : ∀ {un:Up} {g:Nat→Option aP} {r:Nat},zs un r (g r)=bo g un r
 | [],g,r=>rfl
 | (k,v) :: l,g,r=>by
  show(match Y3 k r with | true=>zs l r v | false=>zs l r (g r))=bo (fun s=>if s=k then v else g s) l r
  rw[←FF]
  by_cases h:k=r
  ·subst h
   simp
  ·have:Y3 k r=false:=by
    cases hb:Y3 k r with
    | false=>rfl
    | true=>exact V2 (W2 hb) h
   rw[this,S4 (fun e=>h e.symm)]
theorem bn.moves {un:Up} {ids:List Nat} : ∀(l:List (Nat×Nat)) {get:Nat→Option aP},bn w0 X Pr0 sl get γ Pr a w→(l.map (·.1)++l.filterMap fun p=>ids[p.2]?).Nodup →
  (∀ p∈l,∀ x r,zs un p.1 none=some x→ids[p.2]? = some r→get p.1=some x∧get r=none∧γ r=γ p.1)→bn w0 X Pr0 sl (bo get (moves un ids l)) γ Pr a w
 | [],get,hI,_,_=>hI
 | (m,k) :: l,get,hI,hnd,h=>by
  have hnd':(l.map (·.1)++l.filterMap fun p=>ids[p.2]?).Nodup:=by
   rw[Y4,be_] at hnd
   have h1:=(bp_.1 hnd).2
   refine List.Sublist.nodup ?_ h1
   refine List.Sublist.append (List.Sublist.refl _) ?_
   exact List.Sublist.filterMap _ (List.sublist_cons_self _ _)
  unfold Abs.moves
  split
  ·rename_i x r hx hr
   obtain⟨h1,h2,h3⟩:=h (m,k) (by simp) x r hx hr
   have hI':=hI.move h1 h2 h3
   rw[Y4,be_] at hnd
   obtain⟨hm,hnd2⟩:=bp_.1 hnd
   have hfm:((m,k) :: l).filterMap (fun p=>ids[p.2]?)=r :: l.filterMap (fun p=>ids[p.2]?):=List.filterMap_cons_some (f:=fun p:Nat×Nat=>ids[p.2]?) hr
   rw[hfm] at hm hnd2
   refine bn.moves l hI' hnd' fun p hp x' r' hx' hr' => ?_
   obtain⟨h4,h5,h6⟩:=h p (T8 _ hp) x' r' hx' hr'
   have hpm:p.1≠m:=fun e=>hm (ap_ _ (Z1.2 ⟨p,hp,e⟩))
   have hdis:=List.nodup_append.1 hnd2
   have hpr:p.1≠r:=hdis.2.2 p.1 (Z1.2 ⟨p,hp,rfl⟩) r (by simp)
   have hrr:r'≠r:=fun e=>(bp_.1 hdis.2.1).1 (List.mem_filterMap.2 ⟨p,hp,by rw[hr',e]⟩)
   refine⟨?_,?_,h6⟩
   ·simp only
    rw[S4 hpr,S4 hpm]
    exact h4
   ·simp only
    rw[S4 hrr]
    split
    ·rfl
    ·exact h5
  ·exact bn.moves l hI hnd' fun p hp=>h p (T8 _ hp)
end
end Go.Proofs.YtfffplonjaigkaaGreatDoor.Abs
namespace Go.Proofs.YtfffplonjaigkaaGreatDoor.Abs
open Go Go.RowKit
section
variable {res:aB} {f:Nat→Option Nat}
theorem AU : ∀(ids:List Nat) (k:Nat),(cj res f ids k).length≤ids.length
 | [],_=>T7 _
 | r :: l,k=>by
  have:=AU l (k+1)
  unfold cj
  split
  ·split
   ·simp only[T3]
    omega
   ·simp only[T3]
    omega
  ·simp only[T3]
   omega
  ·simp only[T3]
   omega
  ·simp only[T3]
   omega
  ·simp only[T3]
   omega
  ·simp only[T3]
   omega
theorem lQ : ∀ {ids:List Nat} {k:Nat},(cj res f ids k).length=ids.length → ∀(j r:Nat),ids[j]? = some r→f r=some (k+j) ∧ ∃ x x',ay res r=some x∧(cj res f ids k)[j]? = some (k+j,x')∧lP f x x'
 | [],_,_,j,r,h=>by simp at h
 | i :: l,k,hl,j,r,h=>by
  have hle:=AU (res:=res) (f:=f) l (k+1)
  unfold cj at hl ⊢
  split at hl
  ·rename_i t c hg hh
   split at hl
   ·rename_i c' hc
    cases j with
    | zero =>
     simp at h
     subst h
     exact⟨lm hh,_,_,hg,rfl,.inl ⟨t,c,c',rfl,rfl,hc⟩⟩
    | succ j =>
     have hl':(cj res f l (k+1)).length=l.length:=by simpa using hl
     have:=lQ hl' j r (by simpa using h)
     rw[show k+1+j=k+(j+1) by omega] at this
     exact this
   ·simp only[T3] at hl
    omega
  ·rename_i g caps hg hh
   cases j with
   | zero =>
    simp at h
    subst h
    exact⟨lm hh,_,_,hg,rfl,.inr (.inl ⟨g,caps,rfl,rfl⟩)⟩
   | succ j =>
    have hl':(cj res f l (k+1)).length=l.length:=by simpa using hl
    have:=lQ hl' j r (by simpa using h)
    rw[show k+1+j=k+(j+1) by omega] at this
    exact this
  ·rename_i g caps hg hh
   cases j with
   | zero =>
    simp at h
    subst h
    exact⟨lm hh,_,_,hg,rfl,.inr (.inr (.inl ⟨g,caps,rfl,rfl⟩))⟩
   | succ j =>
    have hl':(cj res f l (k+1)).length=l.length:=by simpa using hl
    have:=lQ hl' j r (by simpa using h)
    rw[show k+1+j=k+(j+1) by omega] at this
    exact this
  ·simp only[T3] at hl
   omega
  ·rename_i v hne hne' hne2 _ hg hh
   cases j with
   | zero =>
    simp at h
    subst h
    exact⟨lm hh,_,_,hg,rfl,.inr (.inr (.inr ⟨rfl,fun t c he=>hne t c (by rw[he]),fun g caps he=>hne' g caps (by rw[he]),fun g caps he=>hne2 g caps (by rw[he])⟩))⟩
   | succ j =>
    have hl':(cj res f l (k+1)).length=l.length:=by simpa using hl
    have:=lQ hl' j r (by simpa using h)
    rw[show k+1+j=k+(j+1) by omega] at this
    exact this
  ·simp only[T3] at hl
   omega
theorem AV : ∀ {tab:aB} {k:Nat},(∀(j:Nat) (p:Nat×aP),tab[j]? = some p→p.1=k+j) → ∀ {j:Nat} {x:aP},tab[j]? = some (k+j,x)→ay tab (k+j)=some x
 | [],_,_,j,x,h=>by simp at h
 | (i,y) :: l,k,hc,j,x,h=>by
  have hi:i=k:=hc 0 (i,y) rfl
  subst hi
  rw[fq]
  cases j with
  | zero =>
   simp at h
   rw[S6 (by simp)]
   rw[h]
  | succ j =>
   rw[S4 (by omega)]
   have:=AV (tab:=l) (k:=i+1) (fun j p hp=>by
    have:=hc (j+1) p (by simpa using hp)
    omega) (j:=j) (x:=x) (by
     rw[show i+1+j=i+(j+1) by omega]
     simpa using h)
   rwa[show i+1+j=i+(j+1) by omega] at this
theorem gt {rb:Bool} : ∀ {tab:aB} {bs:List SV} {ts:List (Option Ty)} {ub:List (Option aP)},bX rb tab bs ts=some ub→ub.length=tab.length ∧ ∀(j:Nat) (y:aP),ub[j]? = some (some y) → ∃(t:Ty) (c c0:SV) (k:Nat),y=aP.box t c∧tab[j]? = some (k,.box t c0)
 | [],[],_,ub,h=>by
  cases h
  exact⟨rfl,fun j y h=>by simp at h⟩
 | [],_ :: _,_,_,h=>by cases h
 | (k,.box t c0) :: l,bs,ts,ub,h=>by
  unfold bX at h
  split at h
  ·rename_i v vs s ts
   split at h
   ·rename_i hst
    simp only[S7] at h
    obtain⟨u',h1,he⟩:=h
    cases he
    obtain⟨h2,h3⟩:=gt h1
    refine⟨by simp[h2],fun j y hj => ?_⟩
    cases j with
    | zero =>
     simp at hj
     subst hj
     exact⟨t,v,c0,k,rfl,rfl⟩
    | succ j =>
     obtain⟨t',c',c0',k',h4,h5⟩:=h3 j y (by simpa using hj)
     exact⟨t',c',c0',k',h4,by simpa using h5⟩
   ·cases h
  ·cases h
 | (k,.row e t xs fr) :: l,bs,ts,ub,h=>by
  obtain⟨bs',ts',u',h1,he⟩ : ∃ bs' ts' u',bX rb l bs' ts'=some u'∧none :: u'=ub:=by
   unfold bX at h
   cases rb with
   | true =>
    simp only at h
    split at h
    ·simp only[S7,U3] at h
     obtain⟨u',h1,he⟩:=h
     exact⟨_,_,u',h1,he⟩
    ·cases h
   | false =>
    simp only[S7,U3] at h
    obtain⟨u',h1,he⟩:=h
    exact⟨_,_,u',h1,he⟩
  cases he
  obtain⟨h2,h3⟩:=gt h1
  refine⟨by simp[h2],fun j y hj => ?_⟩
  cases j with
  | zero=>simp at hj
  | succ j =>
   obtain⟨t',c',c0',k',h4,h5⟩:=h3 j y (by simpa using hj)
   exact⟨t',c',c0',k',h4,by simpa using h5⟩
 | (k,.old e t xs) :: l,bs,ts,ub,h=>by
  unfold bX at h
  simp only[S7] at h
  obtain⟨u',h1,he⟩:=h
  cases he
  obtain⟨h2,h3⟩:=gt h1
  refine⟨by simp[h2],fun j y hj => ?_⟩
  cases j with
  | zero=>simp at hj
  | succ j =>
   obtain⟨t',c',c0',k',h4,h5⟩:=h3 j y (by simpa using hj)
   exact⟨t',c',c0',k',h4,by simpa using h5⟩
 | (k,.gone e t xs) :: l,bs,ts,ub,h=>by
  unfold bX at h
  simp only[S7] at h
  obtain⟨u',h1,he⟩:=h
  cases he
  obtain⟨h2,h3⟩:=gt h1
  refine⟨by simp[h2],fun j y hj => ?_⟩
  cases j with
  | zero=>simp at hj
  | succ j =>
   obtain⟨t',c',c0',k',h4,h5⟩:=h3 j y (by simpa using hj)
   exact⟨t',c',c0',k',h4,by simpa using h5⟩
 | (k,.keepF g0 caps0) :: l,bs,ts,ub,h=>by
  unfold bX at h
  simp only[S7] at h
  obtain⟨u',h1,he⟩:=h
  cases he
  obtain⟨h2,h3⟩:=gt h1
  refine⟨by simp[h2],fun j y hj => ?_⟩
  cases j with
  | zero=>simp at hj
  | succ j =>
   obtain⟨t',c',c0',k',h4,h5⟩:=h3 j y (by simpa using hj)
   exact⟨t',c',c0',k',h4,by simpa using h5⟩
 | (k,.rowP g0 caps0) :: l,bs,ts,ub,h=>by
  unfold bX at h
  simp only[S7] at h
  obtain⟨u',h1,he⟩:=h
  cases he
  obtain⟨h2,h3⟩:=gt h1
  refine⟨by simp[h2],fun j y hj => ?_⟩
  cases j with
  | zero=>simp at hj
  | succ j =>
   obtain⟨t',c',c0',k',h4,h5⟩:=h3 j y (by simpa using hj)
   exact⟨t',c',c0',k',h4,by simpa using h5⟩
theorem gc {rb:Bool} : ∀ {tab:aB} {bs:List SV} {ts:List (Option Ty)} {ub:List (Option aP)},bX rb tab bs ts=some ub → ∀ p∈cE rb tab bs,∃(j:Nat) (q:Nat×aP),tab[j]? = some q∧q.1=p.2∧ub[j]? = some none
 | [],bs,ts,ub,h,p,hp=>by cases bs <;> simp[cE] at hp
 | (k,.box t c0) :: l,bs,ts,ub,h,p,hp=>by
  unfold bX at h
  split at h
  ·rename_i v vs s ts
   split at h
   ·simp only[S7,U3] at h
    obtain⟨u',h1,rfl⟩:=h
    have hp':p∈cE rb l vs:=hp
    obtain⟨j,q,h2,h3,h4⟩:=gc h1 p hp'
    exact⟨j+1,q,by simpa using h2,h3,by simpa using h4⟩
   ·cases h
  ·cases h
 | (k,.row e t xs fr) :: l,bs,ts,ub,h,p,hp=>by
  unfold bX at h
  unfold cE at hp
  cases rb with
  | true =>
   simp only at h hp
   split at h
   ·rename_i m vs t0 ts
    simp only[S7,U3] at h
    obtain⟨u',h1,rfl⟩:=h
    simp only[U7] at hp
    rcases hp with rfl | hp
    ·exact⟨0,_,rfl,rfl,rfl⟩
    ·obtain⟨j,q,h2,h3,h4⟩:=gc h1 p hp
     exact⟨j+1,q,by simpa using h2,h3,by simpa using h4⟩
   ·cases h
  | false =>
   simp only at h hp
   simp only[S7,U3] at h
   obtain⟨u',h1,rfl⟩:=h
   obtain⟨j,q,h2,h3,h4⟩:=gc h1 p hp
   exact⟨j+1,q,by simpa using h2,h3,by simpa using h4⟩
 | (k,.old e t xs) :: l,bs,ts,ub,h,p,hp=>by
  unfold bX at h
  unfold cE at hp
  simp only[S7,U3] at h
  obtain⟨u',h1,rfl⟩:=h
  obtain⟨j,q,h2,h3,h4⟩:=gc h1 p hp
  exact⟨j+1,q,by simpa using h2,h3,by simpa using h4⟩
 | (k,.gone e t xs) :: l,bs,ts,ub,h,p,hp=>by
  unfold bX at h
  unfold cE at hp
  simp only[S7,U3] at h
  obtain⟨u',h1,rfl⟩:=h
  obtain⟨j,q,h2,h3,h4⟩:=gc h1 p hp
  exact⟨j+1,q,by simpa using h2,h3,by simpa using h4⟩
 | (k,.keepF g0 caps0) :: l,bs,ts,ub,h,p,hp=>by
  unfold bX at h
  unfold cE at hp
  simp only[S7,U3] at h
  obtain⟨u',h1,rfl⟩:=h
  obtain⟨j,q,h2,h3,h4⟩:=gc h1 p hp
  exact⟨j+1,q,by simpa using h2,h3,by simpa using h4⟩
 | (k,.rowP g0 caps0) :: l,bs,ts,ub,h,p,hp=>by
  unfold bX at h
  unfold cE at hp
  simp only[S7,U3] at h
  obtain⟨u',h1,rfl⟩:=h
  obtain⟨j,q,h2,h3,h4⟩:=gc h1 p hp
  exact⟨j+1,q,by simpa using h2,h3,by simpa using h4⟩
theorem jp : ∀(s:Sh),(∀(x:s.den) (n:Nat),∀ p∈(aF s x n).2.1,p.2.isSome=true)∧(∀(x:s.den) (n:Nat),∀ p∈(aF.go s x n).2.1,p.2.isSome=true)
 | .val t=>⟨fun x n p hp=>by simp[aF] at hp,fun x n p hp=>by simp[aF.go] at hp⟩
 | .row e t fr=>⟨fun x n p hp=>by
   simp only[aF,U4] at hp
   subst hp
   rfl,fun x n p hp=>by simp[aF.go] at hp⟩
 | .unit=>⟨fun x n p hp=>by simp[aF] at hp,fun x n p hp=>by simp[aF.go] at hp⟩
 | .pair a b=>⟨fun x n p hp=>by simp[aF] at hp,fun x n p hp=>by
   simp only[aF.go,W1] at hp
   rcases hp with hp | hp
   ·exact(jp a).1 _ _ p hp
   ·exact(jp b).2 _ _ p hp⟩
 | .strct s=>⟨fun x n p hp=>(jp s).2 x n p hp,fun x n p hp=>by simp[aF.go] at hp⟩
 | .ptr t=>⟨fun x n p hp=>by
   simp only[aF,U4] at hp
   subst hp
   rfl,fun x n p hp=>by simp[aF.go] at hp⟩
end
section
variable {P:Program} {E:ce} {call:(I:ap)→List SV→aB→Option (I.sh.den×I.bx.den)} {w0:World} {X:Nat→Prop} {Pr0:Nat→Nat→Prop} {sl:List SV} {get:Nat→Option aP} {γ:Nat→Option G} {Pr:Nat→Nat→Prop}
 {a:Act} {w:World} {res:aB} {r0:Nat} {o:Oper} {vs:List SV} {v:SV} {u:Up}
theorem LR {L:Lk} {rows:List Nat} (hR:fE L γ res (fun r=>r∈rows)) {own:Bool} {t:Option Ty} {v v':SV} {fr:List Nat} {x:Value} (hv:RV L γ v x) (h:LA res own t v=some (v',fr)) (hfr : ∀ r∈fr,r∈rows):RV L γ v' x:=by
 have key : ∀ {own:Bool} {t:Option Ty},(match own,t with
  | true,_=>some (v,[])
  | false,some t=>(cq res 9 t v).bind fun x=>some (.val t x,cG 9 v)
  | false,none=>none)=some (v',fr)→RV L γ v' x:=by
  intro own t h
  split at h
  ·cases h
   exact hv
  ·simp only[S7] at h
   obtain⟨y,hy,he⟩:=h
   cases he
   obtain⟨cs,rfl,hk⟩:=eZ hR (d':=9) (by omega) hfr hv hy
   exact .val hk
  ·cases h
 cases hv with
 | undef=>cases h; exact .undef
 | val hk=>cases h; exact .val hk
 | ptr hk hp=>cases h; exact .ptr hk hp
 | eptr hk hc=>cases h; exact .eptr hk hc
 | rptr hk h0 hn hp=>cases h; exact .rptr hk h0 hn hp
 | fn hk=>cases h; exact .fn hk
 | tup hk=>cases h
 | tail=>cases h
 | nilS=>exact key h
 | row hk=>exact key h
 | strct hk=>exact key h
theorem Dy {L:Lk} {rows:List Nat} (hR:fE L γ res (fun r=>r∈rows)) : ∀ {ts:List (Option Ty)} {os:List Bool} {l l':List SV} {fr:List Nat} {us:List Value},b8 L γ l us→pG res ts os l=some (l',fr)→(∀ r∈fr,r∈rows)→b8 L γ l' us
 | _,_,_,_,_,_,.nil,h,_=>by
  simp only[pG] at h
  cases h
  exact .nil
 | ts,os,_,_,_,_,.cons hv k,h,hfr=>by
  simp only[pG,S7] at h
  obtain⟨⟨v',fr1⟩,h1,⟨l',fr2⟩,h2,he⟩:=h
  cases he
  exact .cons (LR hR hv h1 fun r hr=>hfr r (ap_ _ hr)) (Dy hR k h2 fun r hr=>hfr r (List.mem_append_right _ hr))
theorem ln {l m:List Nat} (h:ic l m=false) : ∀ r,r∈l→r∈m→False:=by
 intro r h1 h2
 unfold ic at h
 rw[List.any_eq_false] at h
 have:=h r h1
 cases hh:ud m r with
 | true=>exact this hh
 | false=>exact sV hh h2
theorem zA : ∀ {l:List Nat},AF l=true→l.Nodup
 | [],_=>List.nodup_nil
 | r :: l,h=>by
  simp only[AF,S8,az_] at h
  exact bp_.2 ⟨sV h.1,zA h.2⟩
theorem Qw {L:Lk} {l:List SV} {us:List Value} (h:b8 L γ l us):RV L γ (Pb l) (wD us):=by
 cases h with
 | nil=>exact .tup .nil
 | cons h k =>
  cases k with
  | nil=>exact h
  | cons h' k'=>exact .tup (.cons h (.cons h' k'))
theorem lp {L L':Lk} : ∀ {t:Ty} {x:t.den} {cs:List Value},cx t=true→RK L t x cs→RK L' t x cs
 | .int k,x,cs,_,h=>h
 | .bool,x,cs,_,h=>h
 | .err,x,cs,hn,h=>by cases hn
 | .fn,x,cs,hn,h=>by cases hn
 | .pt,x,cs,hn,h=>by cases hn
 | .bp _,x,cs,hn,h=>by cases hn
 | .str,x,cs,_,h=>h
 | .unit,x,cs,_,h=>h
 | .pair a b,x,cs,hn,h=>by
  simp only[cx,S8] at hn
  obtain⟨c,d,rfl,h1,h2⟩:=h
  exact⟨c,d,rfl,lp hn.1 h1,lp hn.2 h2⟩
 | .agg t,x,cs,hn,h=>lp (t:=t) hn h
 | .slice _ _,x,cs,hn,h=>by cases hn
theorem pO {L L':Lk} {γ:Nat→Option G} : ∀(s:Sh),cy s=true→(∀(x:s.den) (n:Nat) (t:Ty) (cs:List Value),RT L γ t (aF s x n).1 cs→RT L' γ t (aF s x n).1 cs)∧(∀(x:s.den) (n:Nat) (t:Ty) (cs:List Value),eG L γ t (aF.go s x n).1 cs→eG L' γ t (aF.go s x n).1 cs)
 | .val t0,hc=>⟨fun x n t cs h=>by
   cases h with
   | val hk=>exact .val (lp hc hk),fun x n t cs h=>by cases h; exact .nil⟩
 | .row e t0 fr,hc=>⟨fun x n t cs h=>by
   cases h with
   | row hk=>exact .row hk,fun x n t cs h=>by cases h; exact .nil⟩
 | .unit,hc=>⟨(fun x n t cs h=>by cases h),fun x n t cs h=>by cases h; exact .nil⟩
 | .strct s,hc=>⟨fun x n t cs h=>by
   cases h with
   | strct hk=>exact .strct ((pO s hc).2 _ _ _ _ hk),fun x n t cs h=>by cases h; exact .nil⟩
 | .ptr _,hc=>⟨(fun x n t cs h=>by cases h),fun x n t cs h=>by cases h; exact .nil⟩
 | .pair a b,hc=>⟨(fun x n t cs h=>by cases h),fun x n t cs h=>by
   simp only[cy,S8] at hc
   have h':eG L γ t ((aF a x.1 n).1 :: (aF.go b x.2 (aF a x.1 n).2.2).1) cs:=h
   show eG L' γ t ((aF a x.1 n).1 :: (aF.go b x.2 (aF a x.1 n).2.2).1) cs
   cases h' with
   | cons h1 h2=>exact .cons ((pO a hc.1).1 _ _ _ _ h1) ((pO b hc.2).2 _ _ _ _ h2)⟩
theorem FH {L L':Lk} {γ:Nat→Option G} {t t':Ty} {x:t'.den} {cs:List Value} (hc:cx t'=true) (h:RT L γ t (ff (.val t' x)) cs):RT L' γ t (ff (.val t' x)) cs:=by
 have hf : ∀(u:Ty) (y:u.den) (s:Ty) (cs:List Value),cx u=true→eG L γ s (fieldsOf u y) cs→eG L' γ s (fieldsOf u y) cs:=by
  intro u
  induction u with
  | pair a b iha ihb =>
   intro y s cs hn h
   simp only[cx,S8] at hn
   have h':eG L γ s (.val a y.1 :: fieldsOf b y.2) cs:=h
   show eG L' γ s (.val a y.1 :: fieldsOf b y.2) cs
   cases h' with
   | cons h1 h2 =>
    refine .cons ?_ (ihb _ _ _ hn.2 h2)
    cases h1 with
    | val hk=>exact .val (lp hn.1 hk)
  | _ =>
   intro y s cs hn h
   cases h
   exact .nil
 cases t' with
 | agg u =>
  have h':RT L γ t (.strct (fieldsOf u x)) cs:=h
  show RT L' γ t (.strct (fieldsOf u x)) cs
  cases h' with
  | strct hk=>exact .strct (hf u x _ _ hc hk)
 | _ =>
  cases h with
  | val hk=>exact .val (lp hc hk)
theorem N2 {L L':Lk} {γ:Nat→Option G} {s:Sh} (hc:cy s=true) {x:s.den} {n:Nat} {u:Value} (h:RV L γ (aF s x n).1 u):RV L' γ (aF s x n).1 u:=by
 cases s with
 | val t0 =>
  have h':RV L γ (.val t0 x) u:=h
  cases h' with
  | val hk=>exact .val (lp hc hk)
 | row e t0 fr =>
  have h':RV L γ (.row n) u:=h
  cases h' with
  | row hk=>exact .row hk
 | unit=>exact .undef
 | pair a b=>exact .undef
 | ptr t =>
  have h':RV L γ (.ptr n t []) u:=h
  cases h' with
  | ptr hk hp=>exact .ptr hk hp
 | strct s =>
  have h':RV L γ (.strct (aF.go s x n).1) u:=h
  cases h' with
  | strct hk=>exact .strct ((pO s hc).2 _ _ _ _ hk)
theorem Dz {L L':Lk} {γ:Nat→Option G} : ∀ {s:Sh},cy s=true → ∀ {x:s.den} {n:Nat} {us:List Value},b8 L γ (aF.go s x n).1 us→b8 L' γ (aF.go s x n).1 us
 | .val t0,hc,x,n,us,h=>by cases h; exact .nil
 | .row e t0 fr,hc,x,n,us,h=>by cases h; exact .nil
 | .unit,hc,x,n,us,h=>by cases h; exact .nil
 | .strct s,hc,x,n,us,h=>by cases h; exact .nil
 | .ptr _,hc,x,n,us,h=>by cases h; exact .nil
 | .pair a b,hc,x,n,us,h=>by
  simp only[cy,S8] at hc
  have h':b8 L γ ((aF a x.1 n).1 :: (aF.go b x.2 (aF a x.1 n).2.2).1) us:=h
  show b8 L' γ ((aF a x.1 n).1 :: (aF.go b x.2 (aF a x.1 n).2.2).1) us
  cases h' with
  | cons h1 h2=>exact .cons (N2 hc.1 h1) (Dz hc.2 h2)
theorem DA {L L':Lk} {γ:Nat→Option G} : ∀ {s:Sh},cy s=true → ∀ {x:s.den} {n:Nat} {v:SV},v∈(aF.go s x n).1 → ∀ {t:Ty} {cs:List Value},RT L γ t v cs→RT L' γ t v cs
 | .val t0,hc,x,n,v,hv,t,cs,h=>by simp[aF.go] at hv
 | .row e t0 fr,hc,x,n,v,hv,t,cs,h=>by simp[aF.go] at hv
 | .unit,hc,x,n,v,hv,t,cs,h=>by simp[aF.go] at hv
 | .strct s,hc,x,n,v,hv,t,cs,h=>by simp[aF.go] at hv
 | .ptr _,hc,x,n,v,hv,t,cs,h=>by simp[aF.go] at hv
 | .pair a b,hc,x,n,v,hv,t,cs,h=>by
  simp only[cy,S8] at hc
  have hv':v∈(aF a x.1 n).1 :: (aF.go b x.2 (aF a x.1 n).2.2).1:=hv
  rcases U7.1 hv' with rfl | hv'
  ·exact(pO a hc.1).1 _ _ _ _ h
  ·exact DA hc.2 hv' h
def FI (x:Option aP):Prop:=(∃(e:TypeId) (t:Ty) (xs:List t.den),x=some (.row e t xs false)∧cx t=true) ∨ ∃(t:Ty) (y:t.den),x=some (.box t (ff (.val t y)))∧cx t=true
theorem lR : ∀(s:Sh),cy s=true→(∀(x:s.den) (n:Nat),∀ p∈(aF s x n).2.1,FI p.2)∧(∀(x:s.den) (n:Nat),∀ p∈(aF.go s x n).2.1,FI p.2)
 | .val t,hc=>⟨fun x n p hp=>by simp[aF] at hp,fun x n p hp=>by simp[aF.go] at hp⟩
 | .row e t fr,hc=>⟨fun x n p hp=>by
   simp only[cy,S8,az_] at hc
   obtain⟨h1,rfl⟩:=hc
   simp only[aF,U4] at hp
   subst hp
   exact .inl ⟨e,t,x,rfl,h1⟩,fun x n p hp=>by simp[aF.go] at hp⟩
 | .unit,hc=>⟨fun x n p hp=>by simp[aF] at hp,fun x n p hp=>by simp[aF.go] at hp⟩
 | .pair a b,hc=>⟨fun x n p hp=>by simp[aF] at hp,fun x n p hp=>by
   simp only[cy,S8] at hc
   simp only[aF.go,W1] at hp
   rcases hp with hp | hp
   ·exact(lR a hc.1).1 _ _ p hp
   ·exact(lR b hc.2).2 _ _ p hp⟩
 | .strct s,hc=>⟨fun x n p hp=>(lR s hc).2 x n p hp,fun x n p hp=>by simp[aF.go] at hp⟩
 | .ptr t,hc=>⟨fun x n p hp=>by
   simp only[aF,U4] at hp
   subst hp
   exact .inr ⟨t,x,rfl,hc⟩,fun x n p hp=>by simp[aF.go] at hp⟩
theorem I3 : ∀ {u:Up} {get:Nat→Option aP} {m:Nat} {y:aP},bo get u m=some y→(m,some y)∈u∨get m=some y
 | [],get,m,y,h => .inr h
 | (k,x) :: u,get,m,y,h=>by
  rcases I3 (u:=u) (show bo (fun s=>if s=k then x else get s) u m=some y from h) with h2 | h2
  ·exact .inl (T8 _ h2)
  ·by_cases hk:m=k
   ·rw[S6 hk] at h2
    subst hk
    rw[h2]
    exact .inl (by simp)
   ·rw[S4 hk] at h2
    exact .inr h2
theorem jq {rb:Bool} : ∀ {tab:aB} {bs:List SV} {ts:List (Option Ty)} {ub:List (Option aP)},bX rb tab bs ts=some ub → ∀(j:Nat) (t:Ty) (c:SV),ub[j]? = some (some (.box t c))→c∈bs
 | [],bs,ts,ub,h,j,t,c,hj=>by
  have:=(gt h).1
  rw[W8 this] at hj
  simp at hj
 | (k,.box t0 c0) :: l,bs,ts,ub,h,j,t,c,hj=>by
  unfold bX at h
  split at h
  ·split at h
   ·simp only[S7,U3] at h
    obtain⟨u',h1,rfl⟩:=h
    cases j with
    | zero =>
     simp only[Y0,U3,aP.box.injEq] at hj
     rw[←hj.2]
     simp
    | succ j=>exact T8 _ (jq h1 j t c (by simpa using hj))
   ·cases h
  ·cases h
 | (k,.row e t0 xs fr) :: l,bs,ts,ub,h,j,t,c,hj=>by
  unfold bX at h
  cases rb with
  | true =>
   simp only at h
   split at h
   ·simp only[S7,U3] at h
    obtain⟨u',h1,rfl⟩:=h
    cases j with
    | zero=>simp at hj
    | succ j=>exact T8 _ (jq h1 j t c (by simpa using hj))
   ·cases h
  | false =>
   simp only[S7,U3] at h
   obtain⟨u',h1,rfl⟩:=h
   cases j with
   | zero=>simp at hj
   | succ j=>exact jq h1 j t c (by simpa using hj)
 | (k,.old e t0 xs) :: l,bs,ts,ub,h,j,t,c,hj=>by
  unfold bX at h
  simp only[S7,U3] at h
  obtain⟨u',h1,rfl⟩:=h
  cases j with
  | zero=>simp at hj
  | succ j=>exact jq h1 j t c (by simpa using hj)
 | (k,.gone e t0 xs) :: l,bs,ts,ub,h,j,t,c,hj=>by
  unfold bX at h
  simp only[S7,U3] at h
  obtain⟨u',h1,rfl⟩:=h
  cases j with
  | zero=>simp at hj
  | succ j=>exact jq h1 j t c (by simpa using hj)
 | (k,.keepF g0 caps0) :: l,bs,ts,ub,h,j,t,c,hj=>by
  unfold bX at h
  simp only[S7,U3] at h
  obtain⟨u',h1,rfl⟩:=h
  cases j with
  | zero=>simp at hj
  | succ j=>exact jq h1 j t c (by simpa using hj)
 | (k,.rowP g0 caps0) :: l,bs,ts,ub,h,j,t,c,hj=>by
  unfold bX at h
  simp only[S7,U3] at h
  obtain⟨u',h1,rfl⟩:=h
  cases j with
  | zero=>simp at hj
  | succ j=>exact jq h1 j t c (by simpa using hj)
theorem rS.thaw {X:Nat→Prop} {Pr1 Pr':Nat→Nat→Prop} {w':World} {N M:Nat} {sv:List SV} {ub:List (Option aP)} {un:Up} {vals:List Value} {γr:Nat→Option G} (hP : ∀ b o,Pr b o→Pr1 b o)
  (hv : ∀ {L L':Lk},b8 L γr sv vals→b8 L' γr sv vals) (hbx : ∀(j:Nat) (t:Ty) (c:SV),ub[j]? = some (some (.box t c)) → ∀ {L L':Lk} {cs:List Value},RT L γr t c cs→RT L' γr t c cs)
  (hrow : ∀ r x,iY un r=some x→FI (some x))
  (hB:rS w X γ Pr1 N M sv ub un vals γr Pr' w'):rS w X γ Pr N M sv ub un vals γr (fun b o=>Pr' b o∧(Pr b o ∨ ¬Pr1 b o)) w':=by
 refine⟨hv hB.vals,hB.lim,?_,?_,hB.apart,hB.beside,fun j t c b h1 h2 o ho=>hB.boxLoose j t c b h1 h2 o ho.1,fun r x b h1 h2 o ho=>hB.rowLoose r x b h1 h2 o ho.1,hB.where_,hB.frame,hB.size,hB.os,hB.tape,hB.output,fun b o h=>hB.prIn b o h.1,?_,?_⟩
 ·intro j t c hj
  obtain⟨b,arr,T,h1,h2,h3⟩:=hB.box j t c hj
  exact⟨b,arr,T,h1,h2,h3.map fun _ h=>hbx j t c hj h⟩
 ·intro r x h
  obtain⟨h1,h2,h3⟩:=hB.row r x h
  rcases hrow r x h with⟨e,t,xs,he,hn⟩ | ⟨t,y,he,hn⟩
  ·cases he
   obtain⟨v,css,h4,h5,h6,h7⟩:=h3
   exact⟨h1,h2,v,css,h4,⟨h5.1,fun i hi hi'=>lp hn (h5.2 i hi hi')⟩,h6,fun h=>by cases h⟩
  ·cases he
   obtain⟨b,arr,T,h4,h5,h6⟩:=h3
   exact⟨h1,h2,b,arr,T,h4,h5,h6.map fun _ h=>FH hn h⟩
 ·rintro b hb hx o ⟨h1,h2 | h2⟩
  ·exact h2
  ·exact V2 (hB.prOld b hb hx o h1) h2
 ·intro b o v h
  have:=hB.lean b o v ⟨hP b o h.1,h.2⟩
  exact⟨⟨this.1,.inl h.1⟩,this.2⟩
theorem jr (rb:Bool) : ∀(l:List (Nat×(Nat×aP))) {get:Nat→Option aP},bn w0 X Pr0 sl get γ Pr a w→(∀ p∈l,∀ e t xs fr,p.2.2 = .row e t xs fr → ∃ A c,γ p.1=some (.row e t (.slice A (xs:List t.den).length c)))→bn w0 X Pr0 sl (bo get (AG rb l)) γ Pr a w
 | [],get,hI,_=>hI
 | (r,k,x) :: l,get,hI,h=>by
  have hl:=fun p hp=>h p (T8 _ hp)
  cases x with
  | row e t xs fr =>
   cases rb with
   | true=>exact jr true l hI hl
   | false =>
    obtain⟨A,c,hγ⟩:=h (r,k,.row e t xs fr) (by simp) e t xs fr rfl
    refine jr false l (get:=fun s=>if s=r then some (.gone e t xs.length) else get s) ?_ hl
    refine hI.turn r _ none ⟨rfl,rfl,rfl,T7 _,fun _ _ _=>rfl⟩ (fun _ _ h=>h) (fun _ _=>rfl) (fun e t v h=>hI.gs r e t v h) (fun b t h=>hI.wfs r b t h) (fun b hb=>by cases hb) (fun b o h=>h) (fun b o h => .inl h) (fun b o v hb=>by cases hb) ?_ ?_
    ·intro x hx
     cases hx
     exact⟨A,c,hγ⟩
    ·intro x b hx hb
     cases hx
     cases hb
  | box t c=>exact jr rb l hI hl
  | old e t xs=>exact jr rb l hI hl
  | gone e t xs=>exact jr rb l hI hl
  | keepF g caps=>exact jr rb l hI hl
  | rowP g caps=>exact jr rb l hI hl
theorem zB {res:aB} : ∀(l:List Nat) {get:Nat→Option aP},bn w0 X Pr0 sl get γ Pr a w→(∀ r∈l,∀ g caps,ay res r=some (.keepF g caps)→gC (Ln Pr w) Pr γ w r (.keepF g caps))→bn w0 X Pr0 sl (bo get (AH res l)) γ Pr a w
 | [],get,hI,_=>hI
 | r :: l,get,hI,h=>by
  have hl:=fun p hp=>h p (T8 _ hp)
  unfold AH
  split
  ·rename_i g caps hg
   refine zB l (get:=fun s=>if s=r then some (.keepF g caps) else get s) ?_ hl
   refine hI.turn r _ none ⟨rfl,rfl,rfl,T7 _,fun _ _ _=>rfl⟩ (fun _ _ h=>h) (fun _ _=>rfl) (fun e t v h=>hI.gs r e t v h) (fun b t h=>hI.wfs r b t h) (fun b hb=>by cases hb) (fun b o h=>h) (fun b o h => .inl h) (fun b o v hb=>by cases hb) ?_ ?_
   ·intro x hx
    cases hx
    exact h r (by simp) g caps hg
   ·intro x b hx hb
    cases hx
    cases hb
  ·exact zB l hI hl
theorem AW (hS:ig (kF w0 X) P E call) (hE:d7 P E) (hI:bn w0 X Pr0 sl get γ Pr a w) (hk : ∀ r x,ay res r=some x→get r=some x) (hfr : ∀ r,r0≤r→r < r0+64→γ r=none) {g key:Nat} {args:List SV} {us:List Value} (hv:b8 (Ln Pr w) γ args us)
  (hc:eO E call g key args res r0 cd=some (v,u)) (ho : ∀ fn,P.funcs[g]? = some fn→(fn.name == "runtime.NumGoroutine")=false→fn.body.isSome=true→(execOp a.eval o).run P w = .ok (.enter g us.toArray) w):eH P w0 X Pr0 sl get γ Pr a w r0 o v u:=by
 unfold eO at hc
 split at hc
 ·cases hc
 ·rename_i I hgI
  split at hc
  ·cases hc
  rename_i hIg0
  have hIg:=W2 hIg0
  split at hc
  ·cases hc
  ·rename_i args' fr hval
   dsimp only at hc
   split at hc
   ·rename_i hlen hle hmeet
    simp only[S7] at hc
    obtain⟨z,hz,hc⟩:=hc
    split at hc
    ·rename_i ub hub hn'
     cases hc
     have hlen:=W2 hlen
     have hle:=aw_ hle
     rw[S8] at hn'
     obtain⟨hn',honce⟩:=hn'
     have honce:=zA honce
     have hn':=aw_ hn'
     obtain⟨hfn,hname,hbody⟩:=hE.fns key I hgI
     rw[hIg] at hfn
     obtain⟨Pr1,hI1,hP1,hR,hsame,_⟩:=gr hI hk fr
     have hL1 : ∀ b o v,Ln Pr w b o v→Ln Pr1 w b o v:=fun b o v h=>⟨hP1 _ _ h.1,h.2⟩
     have hargs:=Dy hR (eY hL1 (fun _ _ h=>h) hv) hval (fun r h=>h)
     have hf : ∀ r j,cP r (ci res args') 0=some j→((ci res args')[j]?).bind γ=γ r:=by
      intro r j h
      obtain⟨_,h⟩:=wB h
      rw[Nat.sub_zero] at h
      rw[h]
      rfl
     have hargs2:=lO (γ':=fun j=>((ci res args')[j]?).bind γ) (fun h=>Dx hf 9 h) hargs
     have hsrc : ∀ j x',ay (cj res (fun r=>cP r (ci res args') 0) (ci res args') 0) j=some x' → ∃ r x,cP r (ci res args') 0=some j∧ay res r=some x∧bo get (freeze res fr) r=some x∧lP (fun r=>cP r (ci res args') 0) x x'∧r∈ci res args':=by
      intro j x' h
      obtain⟨r,x,h1,h2,h3,_,h5⟩:=wC h
      have hr:r∈ci res args':=W4 h5
      refine⟨r,x,h1,h2,?_,h3,hr⟩
      rw[hsame r (fun h=>ln hmeet r h hr)]
      exact hk r x h2
     have henter:=hI1.enter (tab:=cj res (fun r=>cP r (ci res args') 0) (ci res args') 0) (f:=fun r=>cP r (ci res args') 0) hargs2 hf (fun j g h=>by
      rw[S7] at h
      obtain⟨r,_,h⟩:=h
      exact⟨r,h⟩) (fun j x' h=>by
      obtain⟨r,x,h1,_,h3,h4,_⟩:=hsrc j x' h
      exact⟨r,x,h1,h3,h4⟩)
     have hall:=lQ hlen
     have hcanon : ∀(k:Nat) (p:Nat×aP),(cj res (fun r=>cP r (ci res args') 0) (ci res args') 0)[k]? = some p→p.1=k:=by
      intro k p hp
      have hkl:k < (ci res args').length:=by
       rw[←hlen]
       exact(U0.1 hp).1
      obtain⟨_,x,x',_,h2,_⟩:=hall k _ (T9 hkl)
      rw[hp] at h2
      cases h2
      omega
     have hfr0:kF w0 X w (iC (cj res (fun r=>cP r (ci res args') 0) (ci res args') 0) fun j=>((ci res args')[j]?).bind γ):=by
      intro k hk0 hkX
      refine⟨X1 hk0 hI.size,?_,hI.frame k hk0 hkX⟩
      rintro⟨j,x',h1,h2⟩
      obtain⟨r,x,h3,h4,h5,h6,h7⟩:=hsrc j x' h1
      have:=h6.ok (r:=r) (j:=j) hf h3 (hI1.res r x h5)
      rcases hI1.where_ r x k h5 (by rw[←this.2.1]; exact h2) with h | h
      ·exact hkX h
      ·omega
     have hcalls:=hS I _ _ z key hgI hz hcanon w _ Pr1 us hfr0 henter (fun r hr=>by
      rw[Z5 (by rw[←hlen]; exact hr)]
      rfl) r0 (by rw[hlen]; exact hle) _ _ _ _ _ _ ub rfl rfl hub
     intro next Q hnext
     unfold Oper.wp
     rw[ho I.fn hfn hbody hname,Oper.upon_enter,←hIg]
     refine hcalls.mono ?_
     rintro e w' ⟨vals,γr,Pr',rfl,hB,hsame2⟩
     have hnd : ∀ j j' r:Nat,(ci res args')[j]? = some r→(ci res args')[j']? = some r→j=j':=by
      intro j j' r h h'
      have h1:=(hall j r h).1
      have h2:=(hall j' r h').1
      rw[h1] at h2
      have:=X0 h2
      omega
     obtain⟨hublen,hubbox⟩:=gt hub
     have hF : ∃ A6 PrB,bn w0 X Pr0 sl (bo get (match cy I.sh && cy I.bx with | true=>[] | false=>freeze res fr)) γ A6 a w∧rS w (iC (cj res (fun r=>cP r (ci res args') 0) (ci res args') 0) fun j=>((ci res args')[j]?).bind γ) (fun j=>((ci res args')[j]?).bind γ) A6 r0 (bG I.bx z.2 (bG I.sh z.1 r0).2.2).2.2 (bG I.sh z.1 r0).1 ub ((bG I.sh z.1 r0).2.1++(bG I.bx z.2 (bG I.sh z.1 r0).2.2).2.1) vals γr PrB w':=by
      cases hcl:cy I.sh && cy I.bx with
      | false=>exact⟨Pr1,Pr',hI1,hB⟩
      | true =>
       simp only[S8] at hcl
       refine⟨Pr,_,hI,hB.thaw hP1 (fun h=>Dz hcl.1 h) (fun j t c hj _ _ _ h=>DA hcl.2 (jq hub j t c hj) h) (fun r x h => ?_)⟩
       rcases I3 h with h | h
       ·rcases W1.1 h with h | h
        ·exact(lR I.sh hcl.1).2 _ _ _ h
        ·exact(lR I.bx hcl.2).2 _ _ _ h
       ·cases h
     obtain⟨A6,PrB,hIA,hBA⟩:=hF
     have hsameA : ∀ r,r ∉ fr→bo get (match cy I.sh && cy I.bx with | true=>[] | false=>freeze res fr) r=get r:=fun r hr=>by
      cases cy I.sh && cy I.bx with
      | true=>rfl
      | false=>exact hsame r hr
     have hsrcA : ∀ j x',ay (cj res (fun r=>cP r (ci res args') 0) (ci res args') 0) j=some x' → ∃ r x,cP r (ci res args') 0=some j∧ay res r=some x∧bo get (match cy I.sh && cy I.bx with | true=>[] | false=>freeze res fr) r=some x∧lP (fun r=>cP r (ci res args') 0) x x'∧r∈ci res args':=by
      intro j x' h
      obtain⟨r,x,h1,h2,_,h4,h5⟩:=hsrc j x' h
      exact⟨r,x,h1,h2,by rw[hsameA r (fun h=>ln hmeet r h h5)]; exact hk r x h2,h4,h5⟩
     have hback:=hIA.back (N:=r0) (ub:=ub) hnd (by rw[hublen,hlen]) (fun b=>by
      constructor
      ·rintro⟨j,x',h1,h2⟩
       obtain⟨r,x,h3,h4,h5,h6,h7⟩:=hsrcA j x' h1
       have:=h6.ok (r:=r) (j:=j) hf h3 (hIA.res r x h5)
       exact⟨r,x,h7,h5,by rw[←this.2.1]; exact h2⟩
      ·rintro⟨r,x,h1,h2,h3⟩
       obtain⟨j,hj,he⟩:=Z9 h1
       obtain⟨h4,y,y',h5,h6,h7⟩:=hall j r (by rw[T9 hj,he])
       have hget:=AV (k:=0) (fun j p hp=>by rw[Y5]; exact hcanon j p hp) h6
       have hyx:bo get (match cy I.sh && cy I.bx with | true=>[] | false=>freeze res fr) r=some y:=by
        rw[hsameA r (fun h=>ln hmeet r h h1)]
        exact hk r y h5
       rw[h2] at hyx
       cases hyx
       have:=h7.ok (r:=r) (j:=0+j) hf h4 (hIA.res r x h2)
       exact⟨0+j,y',hget,by rw[this.2.1]; exact h3⟩) (fun j y hy=>by
      obtain⟨t,c,c0,k,h1,h2⟩:=hubbox j y hy
      have hjl:j < (ci res args').length:=by
       rw[←hlen]
       exact(U0.1 h2).1
      obtain⟨_,x,x',h3,h4,h5⟩:=hall j _ (T9 hjl)
      rw[h2] at h4
      cases h4
      rcases h5 with⟨t',c1,c1',hx,hx',_⟩ | ⟨_,_,_,hx'⟩ | ⟨_,_,_,hx'⟩ | ⟨hx,hne,_⟩
      ·cases hx'
       refine⟨t,c,_,c1,h1,T9 hjl,?_⟩
       rw[hsameA _ (fun h=>ln hmeet _ h (bf_ hjl)),hk _ _ h3,hx]
      ·cases hx'
      ·cases hx'
      ·subst hx
       exact V2 rfl (hne t c0)) (fun r h1 h2=>hfr r h1 (X1 h2 hn')) (fun p hp=>by
      rcases W1.1 hp with hp | hp
      ·exact(jp I.sh).2 _ _ p hp
      ·exact(jp I.bx).2 _ _ p hp) hBA
     obtain⟨hI2,hvals⟩:=hback
     refine hnext (wD vals) _ PrB w' (Qw hvals) ?_ ?_
     ·rw[cp,cp]
      refine zB _ ?_ fun r hr g caps hg => ?_
      rotate_left
      ·have hext : ∀ r g,γ r=some g→(if r0≤r∧r < (bG I.bx z.2 (bG I.sh z.1 r0).2.2).2.2 then γr r else γ r)=some g:=fun r g h=>by
        rw[S4 fun h'=>by rw[hfr r h'.1 (X1 h'.2 hn')] at h; cases h]
        exact h
       obtain⟨b,vs,h1,h2,h3⟩:=hIA.res r _ (by rw[hsameA r (fun h=>ln hmeet r h hr)]; exact hk r _ hg)
       exact⟨b,vs,hext r _ h1,hBA.lean _ _ _ h2,jj hBA.lean hext h3⟩
      refine jr _ _ ?_ fun p hp e t xs fr hx => ?_
      rotate_left
      ·obtain⟨j,hj,he⟩:=Z9 hp
       have hj1:(ci res args')[j]? = some p.1:=by
        rw[List.getElem_zip] at he
        rw[←he]
        exact T9 _
       have hj2:(cj res (fun r=>cP r (ci res args') 0) (ci res args') 0)[j]? = some p.2:=by
        rw[List.getElem_zip] at he
        rw[←he]
        exact T9 _
       obtain⟨_,y,y',h5,h6,h7⟩:=hall j p.1 hj1
       rw[hj2] at h6
       have hy':y' = .row e t xs fr:=by
        rw[←hx]
        exact(T4 Prod.snd (X0 h6)).symm
       have hyy:y = .row e t xs fr:=by
        rcases h7 with⟨_,_,_,_,hb,_⟩ | ⟨_,_,_,hb⟩ | ⟨_,_,_,hb⟩ | ⟨hb,_⟩
        ·rw[hb] at hy'
         cases hy'
        ·rw[hb] at hy'
         cases hy'
        ·rw[hb] at hy'
         cases hy'
        ·rw[←hb,hy']
       subst hyy
       obtain⟨v,hv,hrk⟩:=sS (Pr':=fun _ _=>True) (hI.res p.1 _ (hk p.1 _ h5)) (fun _ _ _=>trivial) (fun _ _ _ _=>trivial)
       obtain⟨A,cap,hAc,_⟩:=hrk
       have hγr:γ p.1≠none:=by
        rw[hv]
        exact fun h=>by cases h
       have hrlow : ¬(r0≤p.1∧p.1 < (bG I.bx z.2 (bG I.sh z.1 r0).2.2).2.2):=fun h=>hγr (hfr p.1 h.1 (X1 h.2 hn'))
       refine⟨A,cap,?_⟩
       rw[S4 hrlow,hv,List.cons.inj hAc |>.1]
      rw[cp,cp]
      refine bn.moves _ hI2 honce fun p hp x r hx hr => ?_
      have hx':iY ((bG I.sh z.1 r0).2.1++(bG I.bx z.2 (bG I.sh z.1 r0).2.2).2.1) p.1=some x:=(FF (g:=fun _=>none) (r:=p.1)).symm.trans hx
      obtain⟨hm1,hm2,_⟩:=hB.row p.1 x hx'
      have hub1:ub[p.2]? = some none:=by
       obtain⟨j,q,h3,h4,h5⟩:=gc hub p hp
       have:=hcanon j _ h3
       rw[←h4,this]
       exact h5
      have hrin:r∈ci res args':=W4 hr
      have hγr:γ r≠none:=by
       obtain⟨_,y,y',h5,_⟩:=hall p.2 r hr
       obtain⟨g,hg⟩:=(hI.res r y (hk r y h5)).γsome
       rw[hg]
       exact fun h=>by cases h
      have hrlow : ¬(r0≤r∧r < (bG I.bx z.2 (bG I.sh z.1 r0).2.2).2.2):=fun h=>hγr (hfr r h.1 (X1 h.2 hn'))
      have hun2 : ∀ p∈(bG I.sh z.1 r0).2.1++(bG I.bx z.2 (bG I.sh z.1 r0).2.2).2.1,p.2.isSome=true:=fun p hp=>by
       rcases W1.1 hp with hp | hp
       ·exact(jp I.sh).2 _ _ p hp
       ·exact(jp I.bx).2 _ _ p hp
      refine⟨?_,?_,?_⟩
      ·rw[cp,sX hun2,hx']
      ·rw[cp,sX hun2]
       have:iY ((bG I.sh z.1 r0).2.1++(bG I.bx z.2 (bG I.sh z.1 r0).2.2).2.1) r=none:=by
        cases hh:iY ((bG I.sh z.1 r0).2.1++(bG I.bx z.2 (bG I.sh z.1 r0).2.2).2.1) r with
        | none=>rfl
        | some y =>
         have:=hB.row r y hh
         exact V2 ⟨this.1,this.2.1⟩ hrlow
       rw[this]
       exact(zz hnd).1 p.2 r none hr hub1
      ·have e1:(if r0≤p.1∧p.1 < (bG I.bx z.2 (bG I.sh z.1 r0).2.2).2.2 then γr p.1 else γ p.1)=γr p.1:=S6 ⟨hm1,hm2⟩
       have e2:(if r0≤r∧r < (bG I.bx z.2 (bG I.sh z.1 r0).2.2).2.2 then γr r else γ r)=γ r:=S4 hrlow
       refine e2.trans (Eq.trans ?_ e1.symm)
       rw[hsame2 p hp,hr]
       rfl
     ·intro r hr
      refine S4 (fun h=>hr ⟨h.1,X1 h.2 hn'⟩)
    ·cases hc
   ·cases hc
theorem LS (hS:ig (kF w0 X) P E call) (hE:d7 P E) (hI:bn w0 X Pr0 sl get γ Pr a w) (hk : ∀ r x,ay res r=some x→get r=some x) (hfr : ∀ r,r0≤r→r < r0+64→γ r=none) {g:Nat} {args:List SV} {us:List Value} (hv:b8 (Ln Pr w) γ args us)
  (hc:ga E call g args res r0 cd=some (v,u)) (ho : ∀ fn,P.funcs[g]? = some fn→(fn.name == "runtime.NumGoroutine")=false→fn.body.isSome=true→(execOp a.eval o).run P w = .ok (.enter g us.toArray) w):eH P w0 X Pr0 sl get γ Pr a w r0 o v u:=by
 unfold ga at hc
 split at hc
 ·exact AW hS hE hI hk hfr hv hc ho
 ·rw[S7] at hc
  obtain⟨b,_,hc⟩:=hc
  split at hc <;> exact AW hS hE hI hk hfr hv hc ho
end
end Go.Proofs.YtfffplonjaigkaaGreatDoor.Abs
namespace Go.Proofs.YtfffplonjaigkaaGreatDoor.Abs
open Go Go.RowKit
section
variable {P:Program} {E:ce} {call:(I:ap)→List SV→aB→Option (I.sh.den×I.bx.den)} {w0:World} {X:Nat→Prop} {Pr0:Nat→Nat→Prop} {sl:List SV} {get:Nat→Option aP} {γ:Nat→Option G} {Pr:Nat→Nat→Prop}
 {a:Act} {w:World} {res:aB} {r0:Nat} {o:Oper} {vs:List SV} {v:SV} {u:Up}
theorem uo {L:Lk} : ∀ {l m:List SV} {us ws:List Value},b8 L γ l us→b8 L γ m ws→b8 L γ (l++m) (us++ws)
 | _,_,_,_,.nil,k=>k
 | _,_,_,_,.cons h hs,k => .cons h (uo hs k)
theorem LU (hS:ig (kF w0 X) P E call) (H:dP P E call w0 X Pr0 sl get γ Pr a w res r0 o vs v u) {f:Operand} {args:Array Operand} {argTypes:Array TypeId} (hop:o.op = .call {callee := .value f,args:=args,argTypes:=argTypes}):eH P w0 X Pr0 sl get γ Pr a w r0 o v u:=by
 obtain⟨hE,hI,hk,hfr,hv,hc⟩:=H
 rw[hop] at hv
 have hv':b8 (Ln Pr w) γ vs (a.eval f :: args.toList.map a.eval):=hv
 cases hv' with
 | @cons x as _ _ hx has =>
  unfold cf at hc
  simp only[hop] at hc
  have hc':(match (generalizing:=false) x :: as with
   | .fn g caps :: as=>ga E call g (as++caps) res r0 cd
   | _=>none)=some (v,u):=by
   rcases as with _ | ⟨v2,_ | ⟨v3,vs⟩⟩ <;> cases x <;> exact hc
  cases x with
  | fn g caps =>
   have hc':ga E call g (as++caps) res r0 cd=some (v,u):=hc'
   generalize hfv:a.eval f=fv at hx
   cases hx with
   | fn hcaps =>
    rename_i cv
    refine LS hS hE hI hk hfr (uo has hcaps) hc' ?_
    intro fn hfn hname hbody
    have hargs:args.map a.eval++cv.toArray=(args.toList.map a.eval++cv).toArray:=by
     apply ab_.1
     simp
    have hb:fn.body.isNone=false:=by
     cases hbb:fn.body with
     | none=>rw[hbb] at hbody; cases hbody
     | some c=>rfl
    have h0:(#[]:Array Value)++args.map a.eval=args.map a.eval:=by simp
    simp only[execOp,hop,resolve,hfv,Deferred.ofValue,pure_bind,invoke,callFunc,h0,hargs,U5,run_program,T6,hfn,hname,hb]
    rfl
  | _=>cases hc'
theorem Qx (hS:ig (kF w0 X) P E call) (H:dP P E call w0 X Pr0 sl get γ Pr a w res r0 o vs v u):eH P w0 X Pr0 sl get γ Pr a w r0 o v u:=by
 cases hop:o.op
 case move i=>exact FB H (.inl hop)
 case assign i=>exact FB H (.inr hop)
 case pick i j k=>exact Pv H hop
 case alloc T=>exact NX H hop
 case box T i=>exact Qu H hop
 case build T ps=>exact NY H hop
 case buildSlice T n ps=>exact EG H hop
 case load T i=>exact Pt H hop
 case store T i j=>exact N1 H hop
 case nilCheck i=>exact HQ H hop
 case binOp op T i j T'=>exact NW H hop
 case unOp op T i=>exact Pu H hop
 case convert S D i=>exact J1 H hop
 case makeFunc fn first captured=>exact HR H hop
 case makeSlice T i j=>exact FE H hop
 case slice T i lo hi mx=>exact NZ H hop
 case fieldAddr T i f=>exact Fx H hop
 case field T i f=>exact NS H hop
 case indexAddr T i j=>exact Fy H hop
 case index T i j=>exact NT H hop
 case extract i f=>exact J0 H hop
 case call c =>
  obtain⟨callee,args,argTypes⟩:=c
  cases callee with
  | builtin b=>exact J4 H hop
  | value f=>exact LU hS H hop
  | invoke r n =>
   have hc:=H.says
   unfold cf at hc
   simp only[hop] at hc
   rcases vs with _ | ⟨v1,_ | ⟨v2,_ | ⟨v3,vs⟩⟩⟩ <;> cases hc
 all_goals
  have hc:=H.says
  unfold cf at hc
  simp only[hop] at hc
  rcases vs with _ | ⟨v1,_ | ⟨v2,_ | ⟨v3,vs⟩⟩⟩ <;> cases hc
def kb (sl:List SV) (d:Option Nat) (v:SV):List SV:=match d with | some d=>cH sl d v | none=>sl
theorem bn.put (hI:bn w0 X Pr0 sl get γ Pr a w) {v:SV} {x:Value} (hv:RV (Ln Pr w) γ v x) (d:Option Nat):bn w0 X Pr0 (kb sl d v) get γ Pr (a.put d x) w:=by
 have hs:b8 (Ln Pr w) γ (kb sl d v) (a.put d x).tmps.toList∧(a.put d x).defers=[]:=by
  cases d with
  | none=>exact⟨hI.slots,hI.defers⟩
  | some d =>
   refine⟨?_,hI.defers⟩
   show b8 (Ln Pr w) γ (cH sl d v) (a.tmps.setIfInBounds d x).toList
   rw[Array.toList_setIfInBounds]
   exact IT hI.slots hv
 exact⟨hs.1,hs.2,hI.gs,hI.wfs,hI.res,hI.apart,hI.loose,hI.where_,hI.frame,hI.size,hI.os,hI.tape,hI.output,hI.prIn,hI.prOld,hI.pr0⟩
def fy (all:Array Oper) (o:Oper) (sl:List SV) (ran:Bool):Prop:=match o.guard with
 | none=>ran=true
 | some (j,want) => ∃ d,(all[j]?).bind (·.dst)=some d∧((∃ x,eW sl d = .val .bool x∧ran=(x == want))∨(eW sl d = .tup []∧ran=false))
theorem LV {L:Lk} {all:Array Oper} {ran:Bool} (h:fy all o sl ran) (hs:b8 L γ sl a.tmps.toList):Region.wanted o (yielded all a.tmps)=ran:=by
 unfold fy at h
 unfold Region.wanted
 split at h
 ·rename_i hg
  rw[hg]
  exact h.symm
 ·rename_i j want hg
  obtain⟨d,h1,⟨x,h2,rfl⟩ | ⟨h2,rfl⟩⟩:=h
  rotate_left
  ·rw[hg]
   simp only
   have hd:sl[d]? = some (.tup []):=by
    rw[uh] at h2
    cases hh:sl[d]? with
    | none=>rw[hh] at h2; cases h2
    | some y=>rw[hh] at h2; exact T4 some h2
   obtain⟨y,h3,h4⟩:=sP hs hd
   cases h4 with
   | tup h5 =>
   cases h5
   have:yielded all a.tmps j=none:=by
    unfold yielded
    rw[h1]
    simp only[S1]
    rw[←Y6,h3]
   rw[this]
   rfl
  rw[hg]
  simp only
  have hd:sl[d]? = some (.val .bool x):=by
   rw[uh] at h2
   cases hh:sl[d]? with
   | none=>rw[hh] at h2; cases h2
   | some y=>rw[hh] at h2; exact T4 some h2
  obtain⟨y,h3,h4⟩:=sP hs hd
  have hy:=fD h4
  subst hy
  have:yielded all a.tmps j=some x:=by
   unfold yielded
   rw[h1]
   simp only[S1]
   rw[←Y6,h3]
  rw[this]
  cases x <;> cases want <;> rfl
theorem FJ {all:Array Oper} {Q:Exit→Act→World→Prop} {K:Act→World→Prop} {i:Nat} {ran:Bool} (hS:ig (kF w0 X) P E call) (hE:d7 P E) (hI:bn w0 X Pr0 sl get γ Pr a w) (hi:all[i]? = some o) (hg:fy all o sl ran)
  (hran:ran=true→cf E call o ((cU o.op).map (ev sl)) res r0 cd=some (v,u)) (hk : ∀ r x,ay res r=some x→get r=some x) (hskip:ran=false→v = .tup []∧u=[]) (hfree : ∀ r,r0≤r→r < r0+64→γ r=none)
  (h : ∀ a' w' γ' Pr',bn w0 X Pr0 (kb sl o.dst v) (bo get u) γ' Pr' a' w'→(∀ r,¬(r0≤r∧r < r0+64)→γ' r=γ r)→K a' w'):wpOp P all Q i K a w:=by
 unfold wpOp
 simp only[hi]
 rw[LV hg hI.slots]
 cases ran with
 | false =>
  obtain⟨rfl,rfl⟩:=hskip rfl
  simp only[Bool.false_eq_true,if_false]
  exact h _ _ γ Pr (hI.put (.tup .nil) o.dst) (fun _ _=>rfl)
 | true =>
  simp only[if_true]
  left
  refine Qx hS ⟨hE,hI,hk,hfree,LC hI.slots _,hran rfl⟩ K Q ?_
  intro v' γ' Pr' w' hv hI' hγ
  exact h _ _ γ' Pr' (hI'.put hv o.dst) hγ
theorem wE : ∀(l:List SV) (d:Nat) (v:SV),eW l d=v→cH l d v=l
 | [],_,_,_=>rfl
 | x :: l,0,v,h=>by
  have:x=v:=h
  rw[this]
  rfl
 | x :: l,d+1,v,h=>T4 (x :: ·) (wE l d v h)
theorem rh {k r:Nat} : ∀ {l:aB},ay (wn l k) r=if r=k then none else ay l r
 | []=>by simp[wn,ay]
 | (i,x) :: l=>by
  unfold wn
  by_cases hi:i=k
  ·subst hi
   have:Y3 i i=true:=by simp
   rw[this]
   simp only
   rw[rh,fq]
   by_cases hr:r=i
   ·rw[S6 hr,S6 hr]
   ·rw[S4 hr,S4 hr,S4 (fun e=>hr e.symm)]
  ·have:Y3 i k=false:=by
    cases hb:Y3 i k with
    | false=>rfl
    | true=>exact V2 (W2 hb) hi
   rw[this]
   simp only
   rw[fq,fq,rh]
   by_cases hr:r=k
   ·subst hr
    simp[hi]
   ·simp[hr]
theorem LW {k r:Nat} {v:aP} {l:aB}:ay (JU l k v) r=if r=k then some v else ay l r:=by
 unfold JU
 rw[fq,rh]
 by_cases h:k=r
 ·rw[S6 h,S6 h.symm]
 ·rw[S4 h,S4 (fun e=>h e.symm),S4 (fun e=>h e.symm)]
theorem nq : ∀ {u:Up} {l:aB},ay (sH l u)=bo (ay l) u
 | [],l=>rfl
 | (r,some v) :: u,l=>by
  show ay (sH (JU l r v) u)=bo (fun s=>if s=r then some v else ay l s) u
  rw[nq]
  congr 1
  funext s
  exact LW
 | (r,none) :: u,l=>by
  show ay (sH (wn l r) u)=bo (fun s=>if s=r then none else ay l s) u
  rw[nq]
  congr 1
  funext s
  exact rh
theorem lS {res:aB} : ∀ {ids:List Nat} {r:Nat} {x:aP},ay (eX res ids) r=some x→r∈ids∧ay res r=some x
 | [],_,_,h=>by simp[eX,ay] at h
 | i :: ids,r,x,h=>by
  unfold eX at h
  split at h
  ·rename_i v hv
   rw[fq] at h
   split at h
   ·rename_i hi
    subst hi
    cases h
    exact⟨by simp,hv⟩
   ·obtain⟨h1,h2⟩:=lS h
    exact⟨T8 _ h1,h2⟩
  ·obtain⟨h1,h2⟩:=lS h
   exact⟨T8 _ h1,h2⟩
variable {R:Type} {K:St→Option R} {z:R}
theorem yN {all:Array Oper} {draw:Bool} {base i:Nat} {l:List (Nat×Oper)} {g:List wu} {σ:St} (h:ch E call all draw base ((i,o) :: l) g σ K=some z) :
  ∃(ran:Bool) (v:SV) (u:Up) (see:List Nat),fy all o σ.slots ran∧(ran=true→cf E call o ((cU o.op).map (ev σ.slots)) (eX σ.res see) (base+64*i) cd=some (v,u)∧pI (base+64*i) see u=true)∧(ran=false→v = .tup []∧u=[]) ∧
   ch E call all draw base l ({i,see:=see,turn:=u.map (·.1)} :: g) (kT σ o.dst v u) K=some z:=by
 have hrun : ∀(b:Bool),fy all o σ.slots b→(match b with
   | true=>cf E call o ((cU o.op).map (ev σ.slots)) (eX σ.res (jG o σ.res ((cU o.op).map (ev σ.slots)))) (base+64*i) fun v u=>match pI (base+64*i) (jG o σ.res ((cU o.op).map (ev σ.slots))) u with
    | true=>ch E call all draw base l ({i,see:=(jG o σ.res ((cU o.op).map (ev σ.slots))),turn:=u.map (·.1)} :: g) (kT σ o.dst v u) K
    | false=>none
   | false=>ch E call all draw base l ({i,see:=[],turn:=[]} :: g) (kT σ o.dst (.tup []) []) K)=some z →
   ∃(ran:Bool) (v:SV) (u:Up) (see:List Nat),fy all o σ.slots ran∧(ran=true→cf E call o ((cU o.op).map (ev σ.slots)) (eX σ.res see) (base+64*i) cd=some (v,u)∧pI (base+64*i) see u=true)∧(ran=false→v = .tup []∧u=[]) ∧
    ch E call all draw base l ({i,see:=see,turn:=u.map (·.1)} :: g) (kT σ o.dst v u) K=some z:=by
  intro b hb h
  cases b with
  | true =>
   obtain⟨v,u,h1,h2⟩:=wv h
   split at h2
   ·rename_i hsm
    exact⟨true,v,u,_,hb,fun _=>⟨h1,hsm⟩,(fun h=>by cases h),h2⟩
   ·cases h2
  | false=>exact⟨false,.tup [],[],[],hb,(fun h=>by cases h),fun _=>⟨rfl,rfl⟩,h⟩
 unfold ch at h
 dsimp only at h
 split at h
 ·rename_i hg
  exact hrun true (by unfold fy; rw[hg]) h
 ·rename_i j want hg
  split at h
  ·rename_i d hd
   split at h
   ·rename_i x hx
    have hsl : ∀ b,x=b→cH σ.slots d (.val .bool b)=σ.slots:=fun b hb=>wE _ _ _ (by rw[hx,hb])
    split at h
    ·rename_i hxt
     rw[hsl true hxt] at h
     exact hrun _ (by unfold fy; rw[hg]; exact⟨d,hd,.inl ⟨x,hx,by rw[hxt]⟩⟩) h
    ·rename_i hxf
     have hxf:x=false:=by
      cases hh:(x:Bool) with
      | true=>exact V2 hh hxf
      | false=>rfl
     rw[hsl false hxf] at h
     exact hrun _ (by unfold fy; rw[hg]; exact⟨d,hd,.inl ⟨x,hx,by rw[hxf]⟩⟩) h
   ·rename_i hx
    exact hrun false (by unfold fy; rw[hg]; exact⟨d,hd,.inr ⟨hx,rfl⟩⟩) h
   ·cases h
  ·cases h
theorem uq {σ:St} {d:Option Nat}:(kT σ d v u).slots=kb σ.slots d v:=rfl
theorem N3 {all:Array Oper} {base:Nat} {Q:Exit→Act→World→Prop} (hS:ig (kF w0 X) P E call) (hE:d7 P E) {γ0:Nat→Option G} :
  ∀ {l:List (Nat×Oper)} {g:List wu} {σ:St} {γ:Nat→Option G} {Pr:Nat→Nat→Prop} {a:Act} {w:World},ch E call all false base l g σ K=some z→(∀ p∈l,all[p.1]? = some p.2)→(l.map (·.1)).Nodup →
   bn w0 X Pr0 σ.slots (ay σ.res) γ Pr a w→(∀ p∈l,∀ r,base+64*p.1≤r→r < base+64*p.1+64→γ r=none)→(∀ r,r < base→γ r=γ0 r)→(∀ p∈l,p.1 < all.size)→(∀ r,base+64*all.size≤r→γ r=none) →
   (∀ σ' γ' Pr' a' w',K σ'=some z→bn w0 X Pr0 σ'.slots (ay σ'.res) γ' Pr' a' w'→(∀ r,r < base→γ' r=γ0 r)→(∀ r,base+64*all.size≤r→γ' r=none)→σ'.n0=σ.n0→σ'.nx=σ.nx→Q .normal a' w') →
   wpOps P all Q (l.map (·.1)) a w:=by
 intro l
 induction l with
 | nil =>
  intro g σ γ Pr a w h _ _ hI _ hγ0 _ hlim hQ
  exact hQ σ γ Pr a w h hI hγ0 hlim rfl rfl
 | cons p l ih =>
  intro g σ γ Pr a w h hall hnd hI hfree hγ0 hlt hlim hQ
  obtain⟨i,o⟩:=p
  obtain⟨ran,v,u,see,hg,hran,hskip,hrest⟩:=yN h
  rw[Y4,wpOps_cons]
  rw[Y4,bp_] at hnd
  refine FJ hS hE hI (hall (i,o) (by simp)) hg (fun hr=>(hran hr).1) (fun r x hx=>(lS hx).2) hskip (hfree (i,o) (by simp)) ?_
  intro a' w' γ' Pr' hI' hγ'
  refine ih (γ:=γ') (Pr:=Pr') hrest (fun p hp=>hall p (T8 _ hp)) hnd.2 (by rw[uq]; simp only[kT]; rw[nq]; exact hI') ?_ ?_ (fun p hp=>hlt p (T8 _ hp)) ?_ (fun σ' γ' Pr' a' w' h1 h2 h3 h4 h5 h6=>hQ σ' γ' Pr' a' w' h1 h2 h3 h4 h5 h6)
  ·intro p hp r h1 h2
   have hne:p.1≠i:=fun e=>hnd.1 (by have:=List.mem_map_of_mem (f:=(·.1)) hp; rwa[e] at this)
   rw[hγ' r (by
    rintro⟨h3,h4⟩
    rcases Nat.lt_or_gt_of_ne hne with h | h <;> omega)]
   exact hfree p (T8 _ hp) r h1 h2
  ·intro r hr
   rw[hγ' r (by rintro⟨h3,_⟩; omega)]
   exact hγ0 r hr
  ·intro r hr
   have:=hlt (i,o) (by simp)
   rw[hγ' r (by
    rintro⟨_,h4⟩
    simp only at this
    omega)]
   exact hlim r hr
end
end Go.Proofs.YtfffplonjaigkaaGreatDoor.Abs
