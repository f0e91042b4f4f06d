/- Formulas that are right: trees. -/
import Derived.Test.YtipnjpfdlolhmaaGreatDoorZM4
set_option linter.unusedVariables false
set_option linter.unusedSimpArgs false
set_option linter.unusedSectionVars false
open Bool renaming and_eq_true→Z8,and_true→el_,eq_iff_iff→ci_,false_eq_true→Z5,not_true→aj_,or_eq_true→cx_,true_and→bj_
open ByteArray renaming toList→Z6
open Go.IntKind renaming i64→gu_,wrap→gt_
open Go.Lib renaming decDigits→am_
open Int renaming le_refl→cv_,tdiv→ef_,tmod→du_,toNat_natCast→dd_
open List renaming all_append→cf_,all_cons→bp_,all_eq_true→cc_,append_nil→bz_,getD_eq_getElem?_getD→ak_,getElem?_eq_getElem→ah_,getElem?_eq_some_iff→ar_,getLast?_append→et_,getLast?_singleton→eg_,head?_cons→cr_,isPrefixOf_iff_prefix→dg_,length_append→Z7,length_cons→aa_,length_drop→dv_,length_map→cn_,length_nil→bg_,length_reverse→gk_,length_singleton→Z4,mem_append→bx_,mem_cons_of_mem→af_,mem_cons_self→bn_,mem_cons→bd_,mem_map→fz_,mem_of_getElem?→bq_,mem_singleton→bc_,nil_append→ei_
open Nat renaming le_refl→ag_,le_trans→bf_,lt_of_lt_of_le→cj_,mod_lt→fd_,zero_le→de_
open Option renaming bind_eq_some_iff→ab_,bind_some→Z1,getD_some→ch_,map_some→cs_,some_or→gc_
open Option.some renaming injEq→ap_,inj→bl_
open Prod.mk renaming injEq→fa_
open _root_ renaming ByteArray→Z0,beq_iff_eq→bk_,decide_eq_false→bm_,decide_eq_true_eq→Z9,decide_eq_true→ba_,if_false→ad_,if_neg→Z2,if_pos→Z3,if_true→al_
namespace Go.Proofs.YtipnjpfdlolhmaaGreatDoor.Abs
open Go
def eK (f:List ab) (i:Int):Bool:=decide ((f.getD i.toNat af.dflt).1=3)
def b8 (f:List ab) (k:Int):ab:=f.getD k.toNat af.dflt
def et (c:Int→Option (Int×Nat)) (f:List ab) (call:Bool):List Int→Int→Nat→Option (Int×Nat)
 | [],cur,h=>some (cur,h+1)
 | kid :: l,cur,h=>if kid=cur - 1∧0≤kid∧(eK f kid=true→call=true) then(c kid).bind fun p=>et c f call l p.1 (max h p.2) else none
def dt (f:List ab):Nat→Int→Option (Int×Nat)
 | 0,_=>none
 | n+1,k=>if 0≤k then match f[k.toNat]? with
  | none=>none
  | some x=>if bR x=true then et (dt f n) f (decide (x.1=6)) x.2.2.2.2.2.1.reverse k 0 else none
  else none
def kX (f:List ab) (i:Nat) (x:ab):Prop:=bR x=true ∧ ∀ k∈x.2.2.2.2.2.1,0≤k∧k < i∧(eK f k=true→x.1=6)
theorem rs {c:Int→Option (Int×Nat)} {f:List ab} {call:Bool} (hc : ∀ k s h,c k=some (s,h)→0≤s∧s≤k ∧ ∀ i:Nat,s≤i→(i:Int)≤k → ∃ x,f[i]? = some x∧kX f i x) :
  ∀(l:List Int) (cur:Int) (h:Nat) (s:Int) (h':Nat),0≤cur→et c f call l cur h=some (s,h')→0≤s∧s≤cur∧h+1≤h'∧(∀ i:Nat,s≤i→(i:Int) < cur → ∃ x,f[i]? = some x∧kX f i x) ∧ ∀ k∈l,0≤k∧k < cur∧(eK f k=true→call=true)
 | [],cur,h,s,h',h0,e=>by
  simp only[et,ap_,fa_] at e
  obtain⟨rfl,rfl⟩:=e
  exact⟨h0,cv_ _,ag_ _,fun i h1 h2=>by omega,fun k hk=>by cases hk⟩
 | kid :: l,cur,h,s,h',h0,e=>by
  simp only[et] at e
  split at e
  ·rename_i hk
   rw[ab_] at e
   obtain⟨⟨t,ht⟩,e1,e2⟩:=e
   obtain⟨a1,a2,a3⟩:=hc _ _ _ e1
   obtain⟨b1,b2,b3,b4,b5⟩:=rs hc l t (max h ht) s h' a1 e2
   refine⟨b1,by omega,by omega,fun i h1 h2 => ?_,fun k hm => ?_⟩
   ·by_cases hi:(i:Int) < t
    ·exact b4 i h1 hi
    ·exact a3 i (by omega) (by omega)
   ·rcases bd_.1 hm with rfl | hm
    ·exact⟨hk.2.1,by omega,hk.2.2⟩
    ·have:=b5 k hm
     exact⟨this.1,by omega,this.2.2⟩
  ·cases e
theorem fJ (f:List ab) : ∀(n:Nat) (k s:Int) (h:Nat),dt f n k=some (s,h)→0≤s∧s≤k ∧ ∀ i:Nat,s≤i→(i:Int)≤k → ∃ x,f[i]? = some x∧kX f i x
 | 0,_,_,_,e=>by cases e
 | n+1,k,s,h,e=>by
  simp only[dt] at e
  split at e
  ·rename_i h0
   split at e
   ·cases e
   ·rename_i x hx
    split at e
    ·rename_i ho
     obtain⟨b1,b2,b3,b4,b5⟩:=rs (fJ f n) _ _ _ _ _ h0 e
     refine⟨b1,b2,fun i h1 h2 => ?_⟩
     by_cases hi:(i:Int) < k
     ·exact b4 i h1 hi
     ·have hik:i=k.toNat:=by omega
      refine⟨x,by rw[hik,hx],ho,fun k' hk' => ?_⟩
      have:=b5 k' (by simpa using hk')
      exact⟨this.1,by omega,fun ha=>by simpa using this.2.2 ha⟩
    ·cases e
  ·cases e
theorem WY {f:List ab} {n:Nat} {k s:Int} {h:Nat} (e:dt f n k=some (s,h)):1≤h:=by
 cases n with
 | zero=>cases e
 | succ n =>
  simp only[dt] at e
  split at e
  ·rename_i h0
   split at e
   ·cases e
   ·split at e
    ·exact bf_ (by omega) (rs (fJ f n) _ _ _ _ _ h0 e).2.2.1
    ·cases e
  ·cases e
def nM (deep:Int):Option (Int×Nat)→Int
 | some (s,h)=>if deep+h≤12 then s else -1
 | none => -1
theorem de {n:Int} (h0 : -1000000000≤n) (h1:n≤1000000000):IntKind.i64.wrap n=n:=wr (by omega) (by omega)
section
variable {f:List ab} (hl:f.length≤10000000) (hs : ∀ x∈f,x.2.2.1.2.2.1.size≤9223372036854775807)
include hl hs
theorem FH {n:Nat} (ih : ∀(k deep:Int),0≤k→k < n→k < f.length→0≤deep→deep≤12→yu f k deep=some ((nM deep (dt f n k),()),())) {x:ab} {k:Int} (h0:0≤k) (hk:f[k.toNat]? = some x) (hkn:k≤n) (hkl:x.2.2.2.2.2.1.length≤10000000) :
  ∀(r suf:List Int) (cur:Int) (h:Nat) (deep:Int),x.2.2.2.2.2.1=r.reverse++suf→0≤cur→cur≤k→0≤deep→deep+h+1≤12→qe f k deep cur ((r.length:Int) - 1)=some ((nM deep (et (dt f n) f (decide (x.1=6)) r cur h),()),())
 | [],suf,cur,h,deep,he,c0,c1,d0,d1=>by
  rw[C3,aL (by simp)]
  simp only[et,nM]
  rw[Z3 (by omega)]
 | kid :: r,suf,cur,h,deep,he,c0,c1,d0,d1=>by
  have hkl2:k < (f.length:Int):=by
   have:=(ar_.1 hk).1
   omega
  have he':x.2.2.2.2.2.1=r.reverse++kid :: suf:=by rw[he]; simp
  have hlen:(((kid :: r).length:Int) - 1)=((r.reverse).length:Int):=by simp
  rw[C3,aQ (by rw[hlen]; exact nn _),cP h0 hk,hlen,bI he',de (n:=cur - 1) (by omega) (by omega)]
  simp only[et]
  by_cases e1:kid=cur - 1
  ·rw[Z2 (by simp[e1])]
   by_cases e2:kid < 0
   ·rw[aQ e2,Z2 (by omega)]
    rfl
   ·rw[aL e2]
    have hkd:kid < (f.length:Int):=by omega
    obtain⟨y,hy⟩ : ∃ y,f[kid.toNat]? = some y:=⟨f[kid.toNat]'(by omega),ah_ _⟩
    rw[cP (by omega) hy]
    have har:eK f kid=decide (y.1=3):=by
     unfold eK
     rw[ak_,hy]
     rfl
    have go:((yu f kid (gt_ gu_ (deep+1))).bind fun z1=>if decide (z1.1.1 < 0)=true then some ((-1,()),()) else qe f k deep z1.1.1 (gt_ gu_ (((r.reverse).length:Int) - 1)))=some ((nM deep ((dt f n kid).bind fun p=>et (dt f n) f (decide (x.1=6)) r p.1 (max h p.2)),()),()):=by
     have hlr:(r.reverse).length≤10000000:=by
      rw[he',Z7] at hkl
      omega
     rw[de (by omega) (by omega),de (by omega) (by omega),ih kid (deep+1) (by omega) (by omega) hkd (by omega) (by omega),Z1]
     cases hc:dt f n kid with
     | none=>rfl
     | some p =>
      obtain⟨t,ht⟩:=p
      have ha:=fJ f n _ _ _ hc
      by_cases hd:deep+1+ht≤12
      ·have er:nM (deep+1) (some (t,ht))=t:=Z3 hd
       simp only[er,Z1]
       rw[aL (by omega),gk_,FH ih h0 hk hkn hkl r (kid :: suf) t (max h ht) deep he' (by omega) (by omega) d0 (by omega)]
      ·have er:nM (deep+1) (some (t,ht)) = -1:=Z2 hd
       simp only[er,Z1]
       rw[aQ (by decide)]
       cases hq:et (dt f n) f (decide (x.1=6)) r t (max h ht) with
       | none=>rfl
       | some q =>
        obtain⟨s',h'⟩:=q
        have:=(rs (fJ f n) _ _ _ _ _ (by omega) hq).2.2.1
        simp only[nM]
        rw[Z2 (by omega)]
    by_cases e3:y.1=3
    ·rw[Z3 (by simp[e3]),cP h0 hk]
     by_cases e4:x.1=6
     ·rw[Z2 (by simp[e4]),Z3 ⟨e1,by omega,fun _=>by simp[e4]⟩]
      exact go
     ·rw[Z3 (by simp[e4]),Z2 (by rw[har]; simp[e3,e4])]
      rfl
    ·rw[Z2 (by simp[e3]),Z3 ⟨e1,by omega,fun h=>by rw[har] at h; simp[e3] at h⟩]
     exact go
  ·rw[Z3 (by simpa using e1),Z2 (fun h=>e1 h.1)]
   rfl
theorem LN : ∀(n:Nat) (k deep:Int),0≤k→k < n→k < f.length→0≤deep→deep≤12→(∀ x∈f,x.2.2.2.2.2.1.length≤10000000)→yu f k deep=some ((nM deep (dt f n k),()),())
 | 0,k,deep,h0,h1,_,_,_,_=>by omega
 | n+1,k,deep,h0,h1,h2,d0,d1,hkl=>by
  obtain⟨x,hx⟩ : ∃ y,f[k.toNat]? = some y:=⟨f[k.toNat]'(by omega),ah_ _⟩
  have hm:x∈f:=bq_ hx
  rw[Vb,aL (by omega)]
  by_cases hd:deep≥12
  ·rw[aQ hd]
   cases hc:dt f (n+1) k with
   | none=>rfl
   | some p =>
    obtain⟨s,h⟩:=p
    have:=WY hc
    simp only[nM]
    rw[Z2 (by omega)]
  ·have:=hkl x hm
   rw[aL hd,cP h0 hx,FF (hs x hm),Z1,cP h0 hx,de (by omega) (by omega)]
   simp only[dt,Z3 h0,hx]
   cases ho:bR x with
   | false=>rfl
   | true =>
    simp only[aj_,Z5,ad_,al_]
    have:=FH hl hs (n:=n) (fun k deep a b c d e=>LN n k deep a b c d e hkl) h0 hx (by omega) this x.2.2.2.2.2.1.reverse [] k 0 deep (by simp) h0 (cv_ _) d0 (by omega)
    rw[gk_] at this
    exact this
def G2:Option (Int×Nat)→Int
 | some (s,_)=>s
 | none => -1
theorem Bf {n:Nat} (A : ∀(i:Nat) (x:ab),f[i]? = some x→kX f i x) (ih : ∀(k:Int),0≤k→k < n→k < f.length→wQ f k=some ((G2 (dt f n k),()),())) {x:ab} {k:Int} (h0:0≤k) (hk:f[k.toNat]? = some x) (hkn:k≤n) (hkl:x.2.2.2.2.2.1.length≤10000000) :
  ∀(r suf:List Int) (cur:Int) (h:Nat),x.2.2.2.2.2.1=r.reverse++suf→0≤cur→cur≤k→se f k (cur - 1) ((r.length:Int) - 1)=some ((G2 (et (dt f n) f (decide (x.1=6)) r cur h),()),())
 | [],suf,cur,h,he,c0,c1=>by
  have hkl2:k < (f.length:Int):=by
   have:=(ar_.1 hk).1
   omega
  rw[zv,aL (by simp),de (by omega) (by omega)]
  simp only[et,G2]
  congr 3
  omega
 | kid :: r,suf,cur,h,he,c0,c1=>by
  have hkl2:k < (f.length:Int):=by
   have:=(ar_.1 hk).1
   omega
  have he':x.2.2.2.2.2.1=r.reverse++kid :: suf:=by rw[he]; simp
  have hlen:(((kid :: r).length:Int) - 1)=((r.reverse).length:Int):=by simp
  have hmem:kid∈x.2.2.2.2.2.1:=by rw[he']; simp
  have hst:=(A _ _ hk).2 kid hmem
  rw[zv,aQ (by rw[hlen]; exact nn _)]
  simp only[et]
  by_cases e0:cur - 1 < 0
  ·rw[aQ e0,Z2 (by omega)]
   rfl
  ·rw[aL e0,cP h0 hk,hlen,bI he']
   by_cases e1:kid=cur - 1
   ·have hkd:kid < (f.length:Int):=by omega
    have hlr:(r.reverse).length≤10000000:=by
     rw[he',Z7] at hkl
     omega
    rw[Z2 (by simp[e1]),Z3 ⟨e1,hst.1,fun ha=>by simpa using hst.2.2 ha⟩,←e1,ih kid hst.1 (by omega) hkd,Z1,de (n:=(r.reverse.length:Int) - 1) (by omega) (by omega)]
    cases hc:dt f n kid with
    | none=>rfl
    | some p =>
     obtain⟨t,ht⟩:=p
     have ha:=fJ f n _ _ _ hc
     have er:G2 (some (t,ht))=t:=rfl
     simp only[er,Z1]
     rw[aL (by omega),de (n:=t - 1) (by omega) (by omega),gk_,Bf A ih h0 hk hkn hkl r (kid :: suf) t (max h ht) he' (by omega) (by omega)]
   ·rw[Z3 (by simpa using e1),Z2 (fun h=>e1 h.1)]
    rfl
theorem FI (A : ∀(i:Nat) (x:ab),f[i]? = some x→kX f i x) (hkl : ∀ x∈f,x.2.2.2.2.2.1.length≤10000000) : ∀(n:Nat) (k:Int),0≤k→k < n→k < f.length→wQ f k=some ((G2 (dt f n k),()),())
 | 0,k,h0,h1,_=>by omega
 | n+1,k,h0,h1,h2=>by
  obtain⟨x,hx⟩ : ∃ y,f[k.toNat]? = some y:=⟨f[k.toNat]'(by omega),ah_ _⟩
  have hm:x∈f:=bq_ hx
  have hk:=hkl x hm
  rw[Qj,cP h0 hx,de (n:=k - 1) (by omega) (by omega),de (by omega) (by omega)]
  simp only[dt,Z3 h0,hx,(A _ _ hx).1,al_]
  have:=Bf hl hs (n:=n) A (FI A hkl n) h0 hx (by omega) hk x.2.2.2.2.2.1.reverse [] k 0 (by simp) h0 (cv_ _)
  rw[gk_] at this
  exact this
def mX (c:Int→Option (Int×Nat)):List Int→Nat
 | []=>0
 | k :: l=>max (((c k).map (·.2)).getD 0) (mX c l)
omit hl hs in
theorem DZ (c:Int→Option (Int×Nat)) (k:Int) : ∀ l,mX c (l++[k])=max (mX c l) (((c k).map (·.2)).getD 0)
 | []=>by simp[mX]
 | y :: l=>by
  simp only[List.cons_append,mX,DZ c k l]
  omega
omit hl hs in
theorem O2 (c:Int→Option (Int×Nat)) : ∀ l,mX c l.reverse=mX c l
 | []=>rfl
 | y :: l=>by
  rw[List.reverse_cons,DZ,O2 c l]
  simp only[mX]
  omega
omit hl hs in
theorem Ik {c:Int→Option (Int×Nat)} {call:Bool} : ∀(l:List Int) (cur:Int) (h:Nat) (s:Int) (h':Nat),et c f call l cur h=some (s,h')→h'=max h (mX c l)+1 ∧ ∀ k∈l,∃ p,c k=some p
 | [],cur,h,s,h',e=>by
  simp only[et,ap_,fa_] at e
  exact⟨by simp only[mX]; omega,fun k hk=>by cases hk⟩
 | kid :: l,cur,h,s,h',e=>by
  simp only[et] at e
  split at e
  ·rw[ab_] at e
   obtain⟨⟨t,ht⟩,e1,e2⟩:=e
   obtain⟨b1,b2⟩:=Ik l t (max h ht) s h' e2
   refine⟨?_,fun k hk => ?_⟩
   ·simp only[mX,e1,cs_,ch_]
    omega
   ·rcases bd_.1 hk with rfl | hk
    ·exact⟨_,e1⟩
    ·exact b2 k hk
  ·cases e
theorem Bg {n:Nat} {c:Int→Option (Int×Nat)} (ih : ∀(k:Int) (s:Int) (h:Nat),k < n→c k=some (s,h)→wR f k=some (((h:Int),()),())) {x:ab} {k:Int} (h0:0≤k) (hk:f[k.toNat]? = some x) (hkn:k≤n) (hkl:x.2.2.2.2.2.1.length≤10000000) (hall : ∀ k'∈x.2.2.2.2.2.1,(∃ p,c k'=some p)∧k' < k) (hb:mX c x.2.2.2.2.2.1≤10000000) :
  ∀(ys pre:List Int),x.2.2.2.2.2.1=pre++ys→sf f k (mX c pre:Int) (pre.length:Int)=some ((((mX c x.2.2.2.2.2.1+1:Nat):Int),()),())
 | [],pre,he=>by
  have:pre=x.2.2.2.2.2.1:=by rw[he]; simp
  rw[zw,cP h0 hk,aL (ci he),this,de (by omega) (by omega)]
  rfl
 | y :: ys,pre,he=>by
  obtain⟨⟨⟨s,h⟩,hc⟩,hlt⟩:=hall y (by rw[he]; simp)
  rw[zw,cP h0 hk,aQ (cr he),cP h0 hk,bI he,ih y s h (by omega) hc,Z1,bi he (by omega)]
  have:(if((mX c pre:Nat):Int) < (h:Int) then(h:Int) else((mX c pre:Nat):Int))=(mX c (pre++[y]):Int):=by
   rw[DZ,hc]
   simp only[cs_,ch_]
   split <;> omega
  rw[this]
  exact Bg ih h0 hk hkn hkl hall hb ys _ (aU he)
theorem yO (hkl : ∀ x∈f,x.2.2.2.2.2.1.length≤10000000) : ∀(n:Nat) (k s:Int) (h:Nat),dt f n k=some (s,h)→n≤10000000→h≤n∧wR f k=some (((h:Int),()),())
 | 0,_,_,_,e,_=>by cases e
 | n+1,k,s,h,e,hn=>by
  have hall:=fJ f _ _ _ _ e
  simp only[dt] at e
  split at e
  ·rename_i h0
   split at e
   ·cases e
   ·rename_i x hx
    split at e
    ·have hm:x∈f:=bq_ hx
     obtain⟨b1,b2⟩:=Ik _ _ _ _ _ e
     have hst:=rs (fJ f n) _ _ _ _ _ h0 e
     have hhm:mX (dt f n) x.2.2.2.2.2.1≤n:=by
      have : ∀ l:List Int,mX (dt f n) l≤n:=by
       intro l
       induction l with
       | nil=>exact de_ _
       | cons y l ih =>
        simp only[mX]
        cases hc:dt f n y with
        | none=>simpa using ih
        | some p =>
         have:=(yO hkl n y p.1 p.2 hc (by omega)).1
         simp only[cs_,ch_]
         omega
      exact this _
     rw[O2] at b1
     refine⟨by omega,?_⟩
     rw[Qk]
     have hk2 : ∀ k'∈x.2.2.2.2.2.1,(∃ p,dt f n k'=some p)∧k' < k:=fun k' hk'=>⟨b2 k' (by simpa using hk'),(hst.2.2.2.2 k' (by simpa using hk')).2.1⟩
     have:=Bg hl hs (n:=k.toNat) (c:=dt f n) (fun k' s' h' _ hc=>(yO hkl n k' s' h' hc (by omega)).2) h0 hx (by omega) (hkl x hm) hk2 (by omega) x.2.2.2.2.2.1 [] rfl
     rw[b1]
     have hz:max 0 (mX (dt f n) x.2.2.2.2.2.1)=mX (dt f n) x.2.2.2.2.2.1:=by omega
     rw[hz]
     exact this
    ·cases e
  ·cases e
end
def pv (f:List ab):Bool:=match dt f f.length ((f.length:Int) - 1) with
 | some (s,h)=>decide (s=0) && (!eK f ((f.length:Int) - 1) && decide ((h:Int)≤12))
 | none=>false
def dJ (f:List ab):Bool:=bA (f.length:Int) 1 60 && pv f
theorem iu {f:List ab} (h:dJ f=true) (i:Nat) (x:ab) (hx:f[i]? = some x):kX f i x:=by
 unfold dJ pv at h
 simp only[Z8] at h
 obtain⟨h1,h2⟩:=h
 have h1:=aH.1 h1
 cases hc:dt f f.length ((f.length:Int) - 1) with
 | none=>rw[hc] at h2; cases h2
 | some p =>
  obtain⟨s,d⟩:=p
  rw[hc] at h2
  simp only[Z8,Z9] at h2
  have hl:=(ar_.1 hx).1
  obtain⟨y,hy,hs⟩:=(fJ f _ _ _ _ hc).2.2 i (by omega) (by omega)
  rw[hx] at hy
  rw[bl_ hy]
  exact hs
section
variable {f:List ab} (hl:f.length≤10000000) (hs : ∀ x∈f,x.2.2.1.2.2.1.size≤9223372036854775807) (hkl : ∀ x∈f,x.2.2.2.2.2.1.length≤10000000)
include hl hs hkl
theorem kY:sc f=some ((dJ f,()),()):=by
 rw[JC]
 unfold dJ
 simp only[gl,Z1]
 cases hb:bA (f.length:Int) 1 60 with
 | false=>rfl
 | true =>
  have hb:=aH.1 hb
  obtain⟨x,hx⟩ : ∃ y,f[((f.length:Int) - 1).toNat]? = some y:=⟨f[((f.length:Int) - 1).toNat]'(by omega),ah_ _⟩
  have har:eK f ((f.length:Int) - 1)=decide (x.1=3):=by
   unfold eK
   rw[ak_,hx]
   rfl
  have hfr:=LN hl hs f.length ((f.length:Int) - 1) 0 (by omega) (by omega) (by omega) (by decide) (by decide) hkl
  simp only[al_]
  rw[de (by omega) (by omega),cP (by omega) hx,hfr]
  unfold pv
  rw[har]
  cases hc:dt f f.length ((f.length:Int) - 1) with
  | none=>by_cases h3:x.1=3 <;> simp[h3,nM]
  | some p =>
   obtain⟨s,h⟩:=p
   have hp:=(fJ f _ _ _ _ hc).1
   by_cases h3:x.1=3
   ·simp[h3]
   ·by_cases h4:(h:Int)≤12
    ·simp[h3,nM,h4,G0]
    ·simp[h3,nM,h4]
theorem vg {x:ab} {i:Nat} (hi:f[i]? = some x) (hil:i≤10000000) : ∀(ys pre:List Int),x.2.2.2.2.2.1=pre++ys →
  kU f (i:Int) (pre.length:Int)=if(ys.all fun k=>bA k 0 ((i:Int) - 1) && (!eK f k || decide (x.1=6)))=true then eT f ((i+1:Nat):Int) else some ((false,()),())
 | [],pre,he=>by
  rw[ua,cP (nn _) (by simpa using hi),aL (ci he),de (by omega) (by omega)]
  simp
 | y :: ys,pre,he=>by
  have hm:x∈f:=bq_ hi
  have:=hkl x hm
  rw[ua,cP (nn _) (by simpa using hi),aQ (cr he),cP (nn _) (by simpa using hi),bI he,eB,Z1,de (n:=(i:Int) - 1) (by omega) (by omega),bi he (by omega)]
  have ih:=vg hi hil ys _ (aU he)
  have hlt:=(ar_.1 hi).1
  cases hy:bA y 0 ((i:Int) - 1) with
  | false=>simp[hy]
  | true =>
   have hy2:=aH.1 hy
   obtain⟨z,hz⟩ : ∃ z,f[y.toNat]? = some z:=⟨f[y.toNat]'(by omega),ah_ _⟩
   have har:eK f y=decide (z.1=3):=by
    unfold eK
    rw[ak_,hz]
    rfl
   simp only[aj_,Z5,ad_]
   rw[cP (by omega) hz]
   by_cases h3:z.1=3
   ·rw[Z3 (by simp[h3]),cP (nn _) (by simpa using hi)]
    by_cases h6:x.1=6
    ·rw[Z2 (by simp[h6]),ih]
     simp[hy,har,h6]
    ·rw[Z3 (by simp[h6])]
     simp[hy,har,h3,h6]
   ·rw[Z2 (by simp[h3]),ih]
    simp[hy,har,h3]
def mO (f:List ab) (i:Nat):Bool:=match f[i]? with
 | some x=>bR x && x.2.2.2.2.2.1.all fun k=>bA k 0 ((i:Int) - 1) && (!eK f k || decide (x.1=6))
 | none=>true
omit hl hs hkl in
theorem C6 {i:Nat} {x:ab} (hx:f[i]? = some x):mO f i=true↔kX f i x:=by
 unfold mO kX
 rw[hx]
 simp only[Z8,cc_,aH,cx_,Bool.not_eq_true',Z9]
 constructor
 ·rintro⟨h1,h2⟩
  refine⟨h1,fun k hk => ?_⟩
  obtain⟨⟨a,b⟩,c⟩:=h2 k hk
  refine⟨a,by omega,fun ha => ?_⟩
  rcases c with c | c
  ·rw[c] at ha
   cases ha
  ·exact c
 ·rintro⟨h1,h2⟩
  refine⟨h1,fun k hk => ?_⟩
  obtain⟨a,b,c⟩:=h2 k hk
  refine⟨⟨a,by omega⟩,?_⟩
  cases ha:eK f k with
  | true=>exact .inr (c ha)
  | false=>exact .inl rfl
theorem FJ (hne:1≤f.length) (A : ∀(i:Nat) (x:ab),f[i]? = some x→kX f i x):eT f (f.length:Int)=some ((pv f,()),()):=by
 obtain⟨x,hx⟩ : ∃ y,f[((f.length:Int) - 1).toNat]? = some y:=⟨f[((f.length:Int) - 1).toNat]'(by omega),ah_ _⟩
 have har:eK f ((f.length:Int) - 1)=decide (x.1=3):=by
  unfold eK
  rw[ak_,hx]
  rfl
 rw[tY,aL (Int.lt_irrefl _),de (by omega) (by omega),FI hl hs A hkl f.length _ (by omega) (by omega) (by omega),Z1,cP (by omega) hx]
 unfold pv
 rw[har]
 cases hc:dt f f.length ((f.length:Int) - 1) with
 | none=>rfl
 | some p =>
  obtain⟨s,h⟩:=p
  have er:G2 (some (s,h))=s:=rfl
  simp only[er]
  by_cases h0:s=0
  ·by_cases h3:x.1=3
   ·simp[h0,h3]
   ·rw[Z3 (by simp[h0]),Z3 (by simp[h3]),(yO hl hs hkl _ _ _ _ hc hl).2]
    simp[h0,h3]
  ·rw[Z2 (by simp[h0])]
   simp[h0]
theorem FK {i:Nat} (hi:i < f.length):eT f (i:Int)=if mO f i=true then eT f ((i+1:Nat):Int) else some ((false,()),()):=by
 obtain⟨x,hx⟩ : ∃ y,f[i]? = some y:=⟨f[i],ah_ _⟩
 have hm:x∈f:=bq_ hx
 rw[tY,aQ (by omega),cP (nn _) (by simpa using hx),gI (hs x hm),Z1]
 have es:mO f i=(bR x && x.2.2.2.2.2.1.all fun k=>bA k 0 ((i:Int) - 1) && (!eK f k || decide (x.1=6))):=by
  unfold mO
  rw[hx]
 rw[es]
 cases ho:bR x with
 | false=>simp
 | true =>
  have:=vg hl hs hkl hx (by omega) x.2.2.2.2.2.1 [] rfl
  simp only[aj_,Z5,ad_,bj_]
  exact this
open Classical in
theorem ud : ∀(n i:Nat),i+n=f.length→eT f (i:Int)=if(∀ j,i≤j→j < f.length→mO f j=true) then eT f (f.length:Int) else some ((false,()),())
 | 0,i,h=>by
  have:i=f.length:=by omega
  rw[this,Z3 (fun j h1 h2=>by omega)]
 | n+1,i,h=>by
  rw[FK hl hs hkl (by omega),ud n (i+1) (by omega)]
  by_cases h1:mO f i=true
  ·rw[Z3 h1]
   by_cases h2 : ∀ j,i+1≤j→j < f.length→mO f j=true
   ·rw[Z3 h2,Z3 (fun j a b=>by
     by_cases hj:j=i
     ·rw[hj]; exact h1
     ·exact h2 j (by omega) b)]
   ·rw[Z2 h2,Z2 (fun h3=>h2 fun j a b=>h3 j (by omega) b)]
  ·rw[Z2 h1,Z2 (fun h3=>h1 (h3 i (ag_ _) (by omega)))]
theorem jo:kB f=some ((dJ f,()),()):=by
 rw[Ju]
 by_cases h1:(f.length:Int) < 1
 ·rw[aQ h1]
  have:bA (f.length:Int) 1 60=false:=by simp[bA]; omega
  simp[dJ,this]
 ·rw[aL h1]
  by_cases h2:(f.length:Int) > 60
  ·rw[aQ h2]
   have:bA (f.length:Int) 1 60=false:=by simp[bA]; omega
   simp[dJ,this]
  ·have hb:bA (f.length:Int) 1 60=true:=aH.2 (by omega)
   rw[aL h2,show(0:Int)=((0:Nat):Int) from rfl,ud hl hs hkl f.length 0 (by omega)]
   by_cases A : ∀ j,0≤j→j < f.length→mO f j=true
   ·rw[Z3 A,FJ hl hs hkl (by omega) fun i x hx=>(C6 hx).1 (A i (de_ _) (ar_.1 hx).1)]
    simp[dJ,hb]
   ·rw[Z2 A]
    have:dJ f=false:=by
     cases ho:dJ f with
     | false=>rfl
     | true =>
      refine absurd (fun j _ hj => ?_) A
      have hx:f[j]? = some f[j]:=ah_ _
      exact(C6 hx).2 (iu ho j _ hx)
    rw[this]
end
abbrev ag:=List UInt8
abbrev lb (s:Z0):ag:=s.data.toList
abbrev ba (l:ag):Z0:=⟨l.toArray⟩
theorem dC (l:ag):lb (ba l)=l:=by simp
theorem fm (s:Z0):ba (lb s)=s:=by cases s; simp
theorem az (l:ag):(ba l).size=l.length:=by
 show(ba l).data.size=_
 simp
theorem li (s:Z0):(lb s).length=s.size:=by
 rw[Array.length_toList]
 rfl
theorem rt {a b:ag} (h:ba a=ba b):a=b:=by
 rw[←dC a,h,dC]
theorem Y6 {a b:ag}:(ba a=ba b)=(a=b):=propext ⟨rt,fun h=>by rw[h]⟩
theorem QU (l:ag) (i j:Nat):(ba l).extract i j=ba ((l.take j).drop i):=by
 apply xp
 simp[ByteArray.data_extract,List.extract_eq_take_drop,List.drop_take]
theorem nt (a b:ag):ba a++ba b=ba (a++b):=by
 apply xp
 simp
theorem dn {a b:ag}:(Z6 (ba a) == Z6 (ba b))=decide (a=b):=by
 rw[q6,ci_,Z9,Z9,Y6]
theorem S4 (l:ag):mV (ba l)=l.map fun b=>(b.toNat:Int):=by simp[mV]
theorem kZ {β:Type} {l pre ys:ag} {y:UInt8} {f:Int→Option β} (h:l=pre++y :: ys):ex (ba l) (pre.length:Int) f=f (y.toNat:Int):=by
 have:=A4 (β:=β) (s:=ba l) (pre:=pre.map fun b=>(b.toNat:Int)) (ys:=ys.map fun b=>(b.toNat:Int)) (y:=(y.toNat:Int)) (f:=f) (by rw[S4,h]; simp)
 rw[cn_] at this
 exact this
theorem nu {β:Type} {y:UInt8} {ys:ag} {f:Int→Option β}:ex (ba (y :: ys)) 0 f=f (y.toNat:Int):=kZ (pre:=[]) rfl
theorem FL {β:Type} {l:ag} {n:Nat} {f:Z0→Option β} (h:n≤l.length):CF (ba l) (n:Int) f=f (ba (l.take n)):=by
 rw[X8 (nn _) (by rw[az]; omega),QU]
 simp
theorem fB {β:Type} {l:ag} {n:Nat} {f:Z0→Option β} (h:n≤l.length):iJ (ba l) (n:Int) f=f (ba (l.drop n)):=by
 rw[X9 (nn _) (by rw[az]; omega),QU,az]
 simp
theorem xr {β:Type} {l:ag} {i j:Nat} {f:Z0→Option β} (h:i≤j) (hj:j≤l.length):uH (ba l) (i:Int) (j:Int) f=f (ba ((l.take j).drop i)):=by
 rw[Ya (nn _) (by omega) (by rw[az]; omega),QU]
 simp
theorem bB {β:Type} {a b:ag} {f:Z0→Option β} (h:a.length+b.length≤9223372036854775807):cats (ba a) (ba b) f=f (ba (a++b)):=by
 rw[mD (by rw[az,az]; exact h),nt]
theorem vY (s p:ag) (hs:s.length≤9223372036854775807):fg (ba s) (ba p)=some ((p.isPrefixOf s,()),()):=by
 rw[tP,az,az]
 by_cases h:p.length≤s.length
 ·rw[aQ (by omega),FL h,dn]
  congr 3
  rw[ci_,Z9,dg_,List.prefix_iff_eq_take]
  exact eq_comm
 ·rw[aL (by omega)]
  congr 3
  symm
  rw[Bool.eq_false_iff]
  intro hp
  exact h (dg_.1 hp).length_le
theorem ru (s p:ag) (hs:s.length≤9223372036854775807):eA (ba s) (ba p)=some ((p.isPrefixOf s,()),()):=by
 rw[yD,vY s p hs]
 rfl
theorem rx (s p:ag) (hs:s.length≤9223372036854775807):cD (ba s) (ba p)=some ((ba (if p.isPrefixOf s=true then s.drop p.length else s),p.isPrefixOf s,()),()):=by
 rw[yC,tQ,vY s p hs]
 simp only[Z1]
 cases hp:p.isPrefixOf s with
 | false=>rfl
 | true =>
  have:=(dg_.1 hp).length_le
  simp only[aj_,Z5,ad_,al_,az]
  rw[fB this]
  rfl
theorem vZ (s c:ag) (hc:th (ba c)=true):iR (ba s) (ba c)=some ((ba (s.dropWhile (c.contains ·)),()),()):=by
 rw[zN]
 show(if th (ba c)=true then some (((⟨(Lib.trimLeftS (lb (ba s)) (lb (ba c))).toArray⟩:Z0),()),()) else none)=_
 rw[Z3 hc,dC,dC]
 rfl
theorem Bh {α:Type} (p:α→Bool) (l:List α):l.take (l.length - (l.dropWhile p).length)=l.takeWhile p∧l.drop (l.length - (l.dropWhile p).length)=l.dropWhile p∧(l.dropWhile p).length≤l.length:=by
 have h:=List.takeWhile_append_dropWhile (p:=p) (l:=l)
 have hl:(l.takeWhile p).length+(l.dropWhile p).length=l.length:=by rw[←Z7,h]
 have e:l.length - (l.dropWhile p).length=(l.takeWhile p).length:=by omega
 refine⟨?_,?_,by omega⟩
 ·rw[e]
  have:=List.take_left' (l₁:=l.takeWhile p) (l₂:=l.dropWhile p) rfl
  rw[h] at this
  exact this
 ·rw[e]
  have:=List.drop_left' (l₁:=l.takeWhile p) (l₂:=l.dropWhile p) rfl
  rw[h] at this
  exact this
theorem gW (c:UInt8) (l:ag) (a:UInt8):([a]:ag).isPrefixOf (c :: l)=decide (c=a):=by
 show(a == c && ([]:ag).isPrefixOf l)=_
 rw[show([]:ag).isPrefixOf l=true by cases l <;> rfl,el_,ci_,bk_,Z9]
 exact eq_comm
theorem D0 (c:UInt8) (t:ag):([c]:ag).isPrefixOf t=decide (t.head? = some c):=by
 cases t with
 | nil=>rfl
 | cons y t=>rw[gW]; simp
theorem D1 (y:UInt8) (t:ag) (a c:UInt8):([a,c]:ag).isPrefixOf (y :: t)=(decide (y=a) && decide (t.head? = some c)):=by
 show(a == y && ([c]:ag).isPrefixOf t)=_
 rw[D0]
 congr 1
 rw[ci_,bk_,Z9]
 exact eq_comm
theorem D2 (y c:UInt8) {n:Int} (hn:(c.toNat:Int)=n):((y.toNat:Int) == n)=decide (y=c):=by
 rw[ci_,bk_,Z9,←hn]
 constructor
 ·intro e
  apply UInt8.toNat_inj.1
  omega
 ·intro e
  rw[e]
theorem pw {p:UInt8→Prop} [DecidablePred p] (h : ∀ n:Fin 256,p (UInt8.ofNat n.val)) (c:UInt8):p c:=by
 have:=h ⟨c.toNat,c.toNat_lt⟩
 simpa using this
def eL (c:UInt8):Bool:=decide (65≤c.toNat) && decide (c.toNat≤90)
def dy (c:UInt8):Bool:=decide (48≤c.toNat) && decide (c.toNat≤57)
def bF (a:Nat) (l:ag):Nat:=l.foldl (fun a c=>a*10+(c.toNat - 48)) a
theorem Bi (a:Nat) (l:ag) (c:UInt8):bF a (l++[c])=bF a l*10+(c.toNat - 48):=by simp[bF]
theorem FM {u:Nat} (h:u < 10):am_ u=[UInt8.ofNat (48+u)]:=Lib.decDigits_one h
theorem LO {u:Nat} (h : ¬u < 10):am_ u=am_ (u / 10)++[UInt8.ofNat (48+u % 10)]:=by
 rw[am_,dif_neg h]
theorem QV {x:Nat} (h:x < 10):(UInt8.ofNat (48+x)).toNat=48+x:=by
 rw[UInt8.toNat_ofNat']
 omega
theorem S5 {m x:ag} (h:m≠[]):(m++x).head? = m.head? := by
 cases m with
 | nil=>exact absurd rfl h
 | cons a m=>rfl
def jM (l:ag):Bool:=l.all dy && decide (1≤l.length) && (decide (l.length=1) || !decide (l.head? = some 48))
theorem LP : ∀(n u:Nat),u≤n→bF 0 (am_ u)=u∧jM (am_ u)=true∧(10≤u→2≤(am_ u).length)∧(1≤u→(am_ u).head? ≠ some 48)
 | n,u,hn=>by
  by_cases h:u < 10
  ·rw[FM h]
   have e:=QV h
   refine⟨by simp[bF]; omega,?_,fun h2=>by omega,fun h1 h2 => ?_⟩
   ·simp only[jM,dy,bp_,List.all_nil,e]
    simp
    omega
   ·simp only[cr_,ap_] at h2
    rw[h2] at e
    have:(48:UInt8).toNat=48:=rfl
    omega
  ·cases n with
   | zero=>omega
   | succ n =>
    obtain⟨h1,h2,h3,h4⟩:=LP n (u / 10) (by omega)
    rw[LO h,Bi,h1,QV (fd_ _ (by decide))]
    have h4:=h4 (by omega)
    simp only[jM,Z8,Z9] at h2
    obtain⟨⟨k1,k2⟩,k3⟩:=h2
    have hne:am_ (u / 10)≠[]:=by
     intro e
     rw[e] at k2
     simp at k2
    have hh:(am_ (u / 10)++[UInt8.ofNat (48+u % 10)]).head? ≠ some 48:=by
     rw[S5 hne]
     exact h4
    refine⟨by omega,?_,fun _=>by rw[Z7,Z4]; omega,fun _=>hh⟩
    simp only[jM,cf_,k1,bp_,List.all_nil,dy,QV (fd_ u (show 0 < 10 by decide)),Z8,cx_,Z9]
    refine⟨⟨by simp; omega,by simp⟩,.inr (by simpa using hh)⟩
theorem qf (u:Nat):bF 0 (am_ u)=u:=(LP u u (ag_ _)).1
theorem qg (u:Nat):jM (am_ u)=true:=(LP u u (ag_ _)).2.1
theorem O3 {c:UInt8} (h:dy c=true):UInt8.ofNat (48+(c.toNat - 48))=c:=by
 simp only[dy,Z8,Z9] at h
 have:48+(c.toNat - 48)=c.toNat:=by omega
 rw[this]
 simp
theorem O4 : ∀(l:ag),jM l=true→am_ (bF 0 l)=l∧(l.head? ≠ some 48→1≤bF 0 l):=by
 intro l
 induction hn:l.length using Nat.strongRecOn generalizing l with
 | ind n ih =>
  intro h
  rcases List.eq_nil_or_concat l with rfl | ⟨m,c,rfl⟩
  ·simp[jM] at h
  ·rw[List.concat_eq_append] at *
   simp only[jM,Z8,cx_,Z9,cf_,bp_,List.all_nil,el_] at h
   obtain⟨⟨⟨k1,k0⟩,k2⟩,k3⟩:=h
   have kd:48≤c.toNat∧c.toNat≤57:=by simpa[dy] using k0
   rw[Bi]
   by_cases hm:m=[]
   ·subst hm
    have e:bF 0 []*10+(c.toNat - 48)=c.toNat - 48:=by simp[bF]
    rw[e,FM (by omega),O3 k0]
    refine⟨rfl,fun hh => ?_⟩
    have:c.toNat≠48:=by
     intro e
     apply hh
     simp only[ei_,cr_]
     congr 1
     exact UInt8.toNat_inj.1 e
    omega
   ·have hm1:1≤m.length:=List.length_pos_iff.2 hm
    have hh:(m++[c]).head? = m.head? := S5 hm
    have k4:m.head? ≠ some 48:=by
     rcases k3 with k3 | k3
     ·rw[Z7,Z4] at k3
      omega
     ·rw[hh] at k3
      simpa using k3
    obtain⟨i1,i2⟩:=ih m.length (by rw[←hn,Z7,Z4]; omega) m rfl (by
     simp only[jM,Z8,cx_,Z9]
     exact⟨⟨k1,hm1⟩,.inr (by simpa using k4)⟩)
    have i2:=i2 k4
    refine⟨?_,fun _=>by omega⟩
    rw[LO (by omega)]
    have e1:(bF 0 m*10+(c.toNat - 48)) / 10=bF 0 m:=by omega
    have e2:(bF 0 m*10+(c.toNat - 48)) % 10=c.toNat - 48:=by omega
    rw[e1,e2,i1,O3 k0]
theorem l6 (u:Nat):dr (u:Int)=ba (am_ u):=oD u
theorem B7 : ∀(l:ag) (a:Nat),l.all dy=true→bF a l < (a+1)*10 ^ l.length
 | [],a,_=>by simp[bF]
 | c :: l,a,h=>by
  simp only[bp_,Z8] at h
  have kd:48≤c.toNat∧c.toNat≤57:=by simpa[dy] using h.1
  have:=B7 l (a*10+(c.toNat - 48)) h.2
  show bF (a*10+(c.toNat - 48)) l < _
  refine cj_ this ?_
  rw[aa_,Nat.pow_succ]
  have:a*10+(c.toNat - 48)+1≤(a+1)*10:=by omega
  calc (a*10+(c.toNat - 48)+1)*10 ^ l.length≤((a+1)*10)*10 ^ l.length:=Nat.mul_le_mul_right _ this
   _=(a+1)*(10 ^ l.length*10):=by rw[Nat.mul_assoc,Nat.mul_comm 10]
inductive ey {α:Type} (L:α→List α):α→α→Prop
 | one {i j:α} (h:j∈L i):ey L i j
 | more {i j k:α} (h:ey L i j) (m:k∈L j):ey L i k
theorem ey.trans {α:Type} {L:α→List α} {i j k:α} (h:ey L i j) (m:ey L j k):ey L i k:=by
 induction m with
 | one e=>exact .more h e
 | more _ e ih=>exact .more ih e
theorem ey.head {α:Type} {L:α→List α} {i j k:α} (h:j∈L i) (m:ey L j k):ey L i k:=ey.trans (.one h) m
theorem ey.inN {α:Type} {L:α→List α} {N:List α} (hN : ∀ i,∀ k∈L i,k∈N) {i j:α} (h:ey L i j):j∈N:=by
 cases h with
 | one e=>exact hN _ _ e
 | more _ e=>exact hN _ _ e
theorem ey.closed {α:Type} {L:α→List α} {Q:α→Prop} {i:α} (h0 : ∀ k∈L i,Q k) (hc : ∀ j,Q j → ∀ k∈L j,Q k) {j:α} (h:ey L i j):Q j:=by
 induction h with
 | one e=>exact h0 _ e
 | more _ e ih=>exact hc _ ih _ e
section
variable {α:Type} {L:α→List α} {N:List α}
open Classical in
noncomputable def v6 (L:α→List α) (N:List α) (i:α):Nat:=(N.filter fun j=>decide (ey L i j)).length
open Classical in
theorem S6 (hN : ∀ i,∀ k∈L i,k∈N) {i k:α} (hk:k∈L i) (hc : ¬ey L k k):v6 L N k < v6 L N i:=by
 unfold v6
 refine Aj (fun y _ hy => ?_) ⟨k,hN i k hk,ba_ (.one hk),bm_ hc⟩
 exact ba_ (ey.head hk (of_decide_eq_true hy))
end
def vh (a b:aw):Bool:=decide (a.2.1 < b.2.1) || (decide (a.2.1=b.2.1) && decide (a.1 < b.1))
def B8 (a b:aw):Int:=if kJ a.2.1 b.2.1=0 then kJ a.1 b.1 else kJ a.2.1 b.2.1
theorem D3 (a b:aw):lQ a b=some ((B8 a b,()),()):=by
 rw[uX]
 simp only[vf,Z1]
 rw[DY (by simp)]
 unfold B8
 by_cases h1:kJ a.2.1 b.2.1=0
 ·by_cases h2:kJ a.1 b.1=0 <;> simp[List.find?,h1,h2]
 ·simp[List.find?,h1]
theorem WZ {a b:aw}:B8 a b < 0↔vh a b=true:=by
 unfold B8 vh kJ
 simp only[cx_,Z8,Z9]
 by_cases h1:a.2.1 < b.2.1
 ·simp[h1]
 ·by_cases h2:b.2.1 < a.2.1
  ·simp[h1,h2]
   omega
  ·have h3:a.2.1=b.2.1:=by omega
   by_cases h4:a.1 < b.1
   ·simp[h3,h4]
   ·by_cases h5:b.1 < a.1 <;> simp[h3,h4,h5]
theorem O5 {a b:aw}:(B8 a b≥0)↔vh a b=false:=by
 rw[ge_iff_le,←Int.not_lt,WZ]
 simp
def yP:Option aw→List aw→Bool
 | _,[]=>true
 | none,b :: l=>yP (some b) l
 | some a,b :: l=>vh a b && yP (some b) l
theorem Il {o:Option aw} {b:aw} {l:List aw}:yP o (b :: l)=((match o with | some a=>vh a b | none=>true) && yP (some b) l):=by
 cases o <;> simp[yP]
def oc (l:List ap):Bool:=decide ((l.length:Int)≤120) && ((l.all fun c=>aA c.1 && au c.2.1) && yP none (l.map (·.1)))
theorem W0 {α:Type} {pre:List α} (h:pre≠[]) : ∃ q p,pre=q++[p]:=⟨pre.dropLast,pre.getLast h,(List.dropLast_concat_getLast h).symm⟩
section
variable {xs:List ap} (hl:xs.length≤10000000) (hs : ∀ c∈xs,c.2.1.2.2.1.size≤9223372036854775807)
include hl hs
theorem xt : ∀(ys pre:List ap),xs=pre++ys→lW xs xs (xs.length:Int) (pre.length:Int)=some ((((ys.all fun c=>aA c.1 && au c.2.1) && yP (pre.getLast?.map (·.1)) (ys.map (·.1))) && decide ((xs.length:Int)≤120),()),())
 | [],pre,he=>by
  rw[u9,aL (ci he)]
  simp[yP]
 | y :: ys,pre,he=>by
  have ih:=xt ys _ (aU he)
  have hy:=hs y (by rw[he]; simp)
  rw[u9,aQ (cr he)]
  simp only[bI he,l5,eJ hy,Z1,bi he (by omega),ih]
  simp only[bp_,List.map_cons,Il,et_,eg_,gc_,cs_]
  cases aA y.1 with
  | false=>simp
  | true =>
   by_cases hp:pre=[]
   ·subst hp
    cases au y.2.1 <;> simp
   ·obtain⟨q,p,rfl⟩:=W0 hp
    have hq:xs=q++p :: (y :: ys):=by rw[he]; simp
    have hw:(((q++[p]).length:Nat):Int) - 1=(q.length:Int):=by simp
    have h0:((q++[p]).length:Int) > 0:=by rw[Z7,Z4]; omega
    simp only[hw,ba_ h0,al_,aj_,Z5,ad_]
    rw[de (by omega) (by have:=cr hq; omega),bI hq,D3,Z1]
    simp only[et_,eg_,gc_,cs_,bj_]
    cases ha:vh p.1 y.1 with
    | true =>
     have : ¬(B8 p.1 y.1≥0):=by rw[O5,ha]; simp
     rw[aL this]
     cases au y.2.1 <;> simp
    | false =>
     rw[aQ (O5.2 ha)]
     cases au y.2.1 <;> simp
theorem LQ:AZ xs=some ((oc xs,()),()):=by
 rw[LH]
 unfold oc
 have:=xt hl hs xs [] rfl
 rw[Bool.and_comm]
 simpa using this
end
theorem Yd {a b:aw}:(bP aK a b=true)=(a=b):=propext (mE rfl)
def gn:List ap→aw→ae
 | [],_=>v0
 | c :: l,r=>if c.1=r then c.2.1 else gn l r
section
variable {xs:List ap} (hl:xs.length≤10000000)
include hl
theorem Bj {r:aw} {a b:Int} {s:Z0} : ∀(ys pre:List ap),xs=pre++ys→sj xs (xs.length:Int) (pre.length:Int) r.1 r.2.1 a b s=some ((gn ys r,()),())
 | [],pre,he=>by
  rw[zC,aL (ci he)]
  rfl
 | y :: ys,pre,he=>by
  rw[zC,aQ (cr he),bI he,bi he (by omega),Bj ys _ (aU he)]
  show(if bP aK y.1 r=true then _ else _)=_
  rw[gn]
  by_cases h:y.1=r
  ·rw[Z3 (by rw[Yd]; exact h),Z3 h]
  ·rw[Z2 (by rw[Yd]; exact h),Z2 h]
theorem FN (r:aw):B2 xs r=some ((gn xs r,()),()):=by
 rw[QC]
 exact Bj hl xs [] rfl
end
theorem LR:au v0=true:=by decide
theorem LS : ∀ {l:List ap} {r:aw},(∀ c∈l,au c.2.1=true)→au (gn l r)=true
 | [],r,_=>LR
 | c :: l,r,h=>by
  unfold gn
  split
  ·exact h c (bn_ ..)
  ·exact LS fun d hd=>h d (af_ _ hd)
theorem vi {l:List ap} (h:oc l=true) : ∀ c∈l,au c.2.1=true:=by
 unfold oc at h
 simp only[Z8,cc_] at h
 exact fun c hc=>(h.2.1 c hc).2
theorem nN {n:Int} (h0:1≤n) (h1:n≤5):au (vE n)=true:=by
 unfold au vE
 simp[bA]
 omega
theorem FO {n:Int} (h0 : -1000000000000000≤n) (h1:n≤1000000000000000):au (vN n)=true:=by
 unfold au vN
 simp[bA]
 omega
theorem Wo (b:Bool):au (vB b)=true:=by cases b <;> decide
theorem QW (n:Int):au (bnd n)=true:=by
 unfold bnd
 split
 ·have:=aH.1 ‹_›
  exact FO this.1 this.2
 ·exact nN (by decide) (by decide)
theorem su (v:ae):au (na v)=true:=by
 unfold na
 split
 ·split
  ·assumption
  ·exact nN (by decide) (by decide)
 ·exact nN (by decide) (by decide)
theorem JZ {f:Int→Int→ae} (hf : ∀ x y,au (f x y)=true) (a b:ae):au (C5 f a b)=true:=by
 unfold C5
 split
 ·split
  ·exact hf _ _
  ·exact su _
 ·exact su _
theorem J0 (a b:ae):au (rJ a b)=true:=JZ (fun _ _=>QW _) a b
theorem Wp (a b:ae):au (LJ a b)=true:=JZ (fun _ _=>QW _) a b
theorem Y7 (a b:ae):au (QN a b)=true:=JZ (fun x y=>by
 unfold Vl
 split
 ·exact FO (by omega) (by omega)
 ·exact nN (by decide) (by decide)) a b
theorem Y8 (a b:ae):au (QM a b)=true:=JZ (fun x y=>by
 split
 ·exact nN (by decide) (by decide)
 ·exact QW _) a b
theorem Y9 (a:ae):au (Vj a)=true:=Wp _ _
theorem S7 : ∀(n u:Nat),u≤n → ∀ b∈am_ u,48≤b.toNat∧b.toNat≤57:=by
 intro n
 induction n with
 | zero =>
  intro u h b hb
  rw[am_,dif_pos (by omega)] at hb
  rw[bc_.1 hb]
  have:u=0:=by omega
  subst this
  decide
 | succ n ih =>
  intro u h b hb
  rw[am_] at hb
  split at hb
  ·rename_i h10
   rw[bc_.1 hb]
   simp only[UInt8.toNat_ofNat']
   omega
  ·rcases bx_.1 hb with hb | hb
   ·exact ih (u / 10) (by omega) b hb
   ·rw[bc_.1 hb]
    simp only[UInt8.toNat_ofNat']
    omega
theorem Ye (l:List UInt8):mV ⟨l.toArray⟩=l.map fun b=>(b.toNat:Int):=by simp[mV]
theorem QX (n:Int):plain (dr n)=true:=by
 have hu : ∀ u:Nat,plain ⟨(am_ u).toArray⟩=true:=by
  intro u
  unfold plain
  rw[Ye,cc_]
  intro x hx
  obtain⟨b,hb,rfl⟩:=fz_.1 hx
  have:=S7 u u (ag_ _) b hb
  unfold rp
  simp
  omega
 by_cases h:n < 0
 ·rw[vd h,show -n=((-n).toNat:Int) by omega,oD]
  have:=hu (-n).toNat
  unfold plain at this ⊢
  rw[Fh,cf_,this]
  decide
 ·rw[show n=(n.toNat:Int) by omega,oD]
  exact hu _
theorem Im {a b:Z0}:plain (a++b)=(plain a && plain b):=by
 unfold plain
 rw[Fh,cf_]
theorem QY (n:Int):plain (df n)=true:=by
 have h : ∀ i:Nat,i < 6→plain (Vm.getD i eS)=true:=by decide
 unfold df
 by_cases hn:n.toNat < 6
 ·exact h _ hn
 ·rw[ak_,List.getElem?_eq_none (by show 6≤n.toNat; omega)]
  decide
theorem LU {v:ae} (h:au v=true) (k:v.1=2):v.2.1=0∧plain v.2.2.1=true∧v.2.2.1.size≤200:=by
 unfold au at h
 rw[Z3 k] at h
 simp only[Z8,Z9] at h
 exact⟨h.1,h.2.1,by omega⟩
theorem QZ {v:ae} (h:au v=true):plain (cH v)=true:=by
 unfold cH
 split
 ·exact QX _
 ·split
  ·rw[Im,(LU h ‹_›).2.1]
   decide
  ·split
   ·unfold B4
    split <;> decide
   ·split
    ·exact QY _
    ·decide
theorem Io {v:ae} (h:au v=true):plain (ve v)=true:=by
 unfold ve
 split
 ·exact(LU h ‹_›).2.1
 ·exact QZ h
theorem ZO {s:Z0} (h:plain s=true) (k:s.size≤200):au (vT s)=true:=by
 unfold au vT
 simp[h]
 omega
theorem Yf (a b:ae):au (FC a b)=true:=by
 unfold FC
 split
 ·split
  ·split
   ·exact nN (by decide) (by decide)
   ·rename_i h1 h2 h3
    refine ZO ?_ (by rw[size_append]; omega)
    rw[Im,Io (B6 h1),Io (B6 h2)]
    rfl
  ·exact su _
 ·exact su _
theorem Yg (op:Int) (a b:ae):au (FE op a b)=true:=by
 unfold FE
 split
 ·split
  ·split
   ·split
    ·assumption
    ·split
     ·assumption
     ·exact Wo _
   ·exact nN (by decide) (by decide)
  ·exact nN (by decide) (by decide)
 ·exact nN (by decide) (by decide)
def sw (v:ae):Bool:=au v && (decide (v.1=0) || decide (v.1=1) || decide (v.1=3))
theorem v7 {v:ae} (h:v.2.2.1.size≤9223372036854775807):tK v=some ((decide (v.2.1≠0),sw v,()),()):=by
 rw[NS]
 unfold sw
 simp only[eJ h,Z1,bk_]
 have hb:(v.2.1 != 0)=decide (v.2.1≠0):=by by_cases h:v.2.1=0 <;> simp[h]
 rw[hb]
 cases au v
 ·rfl
 ·by_cases h0:v.1=0
  ·simp[h0]
  ·by_cases h1:v.1=1
   ·simp[h1]
   ·simp[h0,h1,G0]
def FP (a:Bool):List ae→Bool→Bool→ae
 | [],all,one=>vB (if a=true then all else one)
 | v :: l,all,one=>if sw v=true then FP a l (all && decide (v.2.1≠0)) (one || decide (v.2.1≠0)) else na v
def v8:List ae→ae→ae
 | [],s=>s
 | v :: l,s=>if v.1=4 then v else if v.1=1 then(if(rJ s v).1=4 then rJ s v else v8 l (rJ s v)) else v8 l s
def px (op:Int):List ae→Int→Int→Int→ae
 | [],l,m,c=>if op=2 then vN l else if op=3 then vN m else vN c
 | v :: t,l,m,c=>if v.1=4∧op≠4 then v else if v.1=1 then(if c=0 then px op t v.2.1 v.2.1 1 else px op t (if v.2.1 < l then v.2.1 else l) (if m < v.2.1 then v.2.1 else m) (c+1)) else px op t l m c
theorem Vs (a:Bool) (v:ae) (l:List ae) (all one:Bool):FP a (v :: l) all one=if sw v=true then FP a l (all && decide (v.2.1≠0)) (one || decide (v.2.1≠0)) else na v:=rfl
theorem S8 (v:ae) (l:List ae) (s:ae):v8 (v :: l) s=if v.1=4 then v else if v.1=1 then(if(rJ s v).1=4 then rJ s v else v8 l (rJ s v)) else v8 l s:=rfl
theorem S9 (op:Int) (v:ae) (t:List ae) (l m c:Int):px op (v :: t) l m c=if v.1=4∧op≠4 then v else if v.1=1 then(if c=0 then px op t v.2.1 v.2.1 1 else px op t (if v.2.1 < l then v.2.1 else l) (if m < v.2.1 then v.2.1 else m) (c+1)) else px op t l m c:=rfl
section
variable {xs:List ae} (hl:xs.length≤100000000) (hv : ∀ v∈xs,au v=true)
include hl hv
theorem xu {op:Int} {p q:Int} {s:Z0} : ∀(ys pre:List ae) (all one:Bool),xs=pre++ys→iW op all one xs (xs.length:Int) (pre.length:Int) p q s=some ((FP (decide (op=6)) ys all one,()),())
 | [],pre,all,one,he=>by
  rw[u6,aL (ci he)]
  by_cases h:op=6 <;> simp[h,rq,FP]
 | y :: ys,pre,all,one,he=>by
  have hy:=hv y (by rw[he]; simp)
  rw[u6,aQ (cr he),bI he,v7 (dM hy),Z1,bi he (by omega)]
  simp only[xu ys _ _ _ (aU he),gf (dM hy),Z1]
  rw[Vs]
  cases sw y
  ·simp
  ·cases all <;> cases one <;> simp
theorem LV (op:Int):kn op xs=some ((FP (decide (op=6)) xs true false,()),()):=by
 rw[LD]
 exact xu hl hv xs [] true false rfl
theorem ue {p q:Int} {u:Z0} : ∀(ys pre:List ae) (s:ae),xs=pre++ys→au s=true→s.1≠4→pl xs (xs.length:Int) (pre.length:Int) p q u s.1 s.2.1 s.2.2.1=some ((v8 ys s,()),())
 | [],pre,s,he,hs,h4=>by
  rw[zD,aL (ci he)]
  rfl
 | y :: ys,pre,s,he,hs,h4=>by
  have hy:=hv y (by rw[he]; simp)
  rw[zD,aQ (cr he),bI he,bi he (by omega)]
  show(if(y.1 == 4)=true then _ else if(y.1 == 1)=true then(K4 s y).bind _ else _)=_
  rw[O0 (dM hs) (dM hy),Z1]
  rw[S8]
  by_cases k4:y.1=4
  ·simp[k4]
  ·by_cases k1:y.1=1
   ·by_cases ka:(rJ s y).1=4
    ·simp[k1,ka]
    ·simp only[k1,ka,bk_,al_,ad_]
     rw[Z2 (by decide),Z2 (by decide)]
     exact ue ys _ (rJ s y) (aU he) (J0 _ _) ka
   ·simp only[k4,k1,h4,bk_,ad_]
    exact ue ys _ s (aU he) hs h4
theorem Q0:oB xs=some ((v8 xs (vN 0),()),()):=by
 rw[QH,jx,Z1]
 exact ue hl hv xs [] (vN 0) rfl (FO (by decide) (by decide)) (by decide)
theorem xv {op:Int} {p q:Int} {u:Z0} : ∀(ys pre:List ae) (l m c:Int),xs=pre++ys→0≤c→c≤pre.length→fy op l m c xs (xs.length:Int) (pre.length:Int) p q u=some ((px op ys l m c,()),())
 | [],pre,l,m,c,he,h0,h1=>by
  rw[u7,aL (ci he)]
  unfold px
  by_cases h2:op=2
  ·simp[h2,jx]
  ·by_cases h3:op=3 <;> simp[h2,h3,jx]
 | y :: ys,pre,l,m,c,he,h0,h1=>by
  have hlt:=cr he
  have ih:=fun l m c h0 h1=>xv (op:=op) (p:=p) (q:=q) (u:=u) ys _ l m c (aU he) h0 h1
  rw[u7,aQ hlt,bI he,bi he (by omega)]
  rw[wr (n:=c+1) (by omega) (by omega)]
  have hp:((pre++[y]).length:Int)=pre.length+1:=by simp
  generalize ((pre++[y]).length:Int)=w at ih hp ⊢
  rw[S9]
  simp only[bk_,bne_iff_ne,ne_eq]
  by_cases hc:c=0
  ·subst hc
   have e1:=ih y.2.1 y.2.1 1 (by decide) (by omega)
   have e2:=ih l m 0 (by decide) (by omega)
   by_cases k4:y.1=4
   ·by_cases o4:op=4
    ·simp[k4,o4]
     rw[←o4]
     exact e2
    ·simp[k4,o4]
   ·by_cases k1:y.1=1
    ·simp[k1]
     exact e1
    ·simp[k4,k1]
     exact e2
  ·have e1:=ih (if y.2.1 < l then y.2.1 else l) (if m < y.2.1 then y.2.1 else m) (c+1) (by omega) (by omega)
   have e2:=ih l m c h0 (by omega)
   by_cases k4:y.1=4
   ·by_cases o4:op=4
    ·simp[k4,o4]
     rw[←o4]
     exact e2
    ·simp[k4,o4]
   ·by_cases k1:y.1=1
    ·simp[k1,hc]
     exact e1
    ·simp[k4,k1]
     exact e2
theorem LW (op:Int):ko op xs=some ((px op xs 0 0 0,()),()):=by
 rw[LF]
 exact xv hl hv xs [] 0 0 0 rfl (by decide) (by decide)
def J1 (op:Int) (xs:List ae):ae:=if op=6∨op=7 then FP (decide (op=6)) xs true false else if op=1 then v8 xs (vN 0) else px op xs 0 0 0
end
theorem Ta {a:Bool} : ∀ {l:List ae} {p q:Bool},au (FP a l p q)=true
 | [],p,q=>Wo _
 | v :: l,p,q=>by
  unfold FP
  split
  ·exact Ta
  ·exact su _
theorem G3 : ∀ {l:List ae} {s:ae},(∀ v∈l,au v=true)→au s=true→au (v8 l s)=true
 | [],s,_,h=>h
 | v :: l,s,hv,h=>by
  unfold v8
  split
  ·exact hv v (bn_ ..)
  ·split
   ·split
    ·exact J0 _ _
    ·exact G3 (fun w hw=>hv w (af_ _ hw)) (J0 _ _)
   ·exact G3 (fun w hw=>hv w (af_ _ hw)) h
theorem B9 {op:Int} : ∀ {t:List ae} {l m c:Int},(∀ v∈t,au v=true)→(-1000000000000000≤l∧l≤1000000000000000)→(-1000000000000000≤m∧m≤1000000000000000)→(0≤c∧c+t.length≤1000000000000000)→au (px op t l m c)=true
 | [],l,m,c,hv,hl,hm,hc=>by
  unfold px
  simp only[bg_] at hc
  split
  ·exact FO hl.1 hl.2
  ·split
   ·exact FO hm.1 hm.2
   ·exact FO (by omega) (by omega)
 | v :: t,l,m,c,hv,hl,hm,hc=>by
  have hvv:=hv v (bn_ ..)
  have hvt:=fun w hw=>hv w (af_ _ hw)
  simp only[aa_] at hc
  unfold px
  split
  ·exact hvv
  ·split
   ·have:=xq hvv ‹_›
    split
    ·exact B9 hvt this this (by omega)
    ·refine B9 hvt ?_ ?_ (by omega)
     ·split <;> omega
     ·split <;> omega
   ·exact B9 hvt hl hm (by omega)
theorem Vt {op:Int} {xs:List ae} (hv : ∀ v∈xs,au v=true) (hl:xs.length≤100000000):au (J1 op xs)=true:=by
 unfold J1
 split
 ·exact Ta
 ·split
  ·exact G3 hv (FO (by decide) (by decide))
  ·exact B9 hv (by decide) (by decide) (by omega)
def jz (a:aB) (r:aw):Bool:=bA r.1 a.1.1 a.2.1.1 && bA r.2.1 a.1.2.1 a.2.1.2.1
def b9 (x:ab):aB:=if x.1=2 then(x.2.2.2.1.1,x.2.2.2.1.1,()) else(x.2.2.2.1.1,x.2.2.2.2.1.1,())
theorem Bk (a:aB) (r:aw):gD a r=some ((jz a r,()),()):=by
 rw[A7]
 unfold jz
 simp only[gl,Z1]
 cases bA r.1 a.1.1 a.2.1.1 <;> simp
theorem xw (x:ab):jK x=some ((b9 x,()),()):=by
 rw[mF]
 unfold b9
 by_cases h:x.1=2 <;> simp[h]
def fX (l:List ap) (a:aB):List ae:=(l.filter fun c=>jz a c.1).map fun c=>c.2.1
def jA (ev:Int→ae) (f:List ab) (l:List ap):List Int→List ae
 | []=>[]
 | k :: ks=>(if(b8 f k).1=3 then fX l (b9 (b8 f k)) else [ev k])++jA ev f l ks
def Wq (op:Int) (n:Int) (kid:Nat→ae) (args:List ae):ae :=
 if op=5 then(if sw (kid 0)=true then(if(kid 0).2.1≠0 then kid 1 else if n > 2 then kid 2 else vB false) else na (kid 0))
 else if op=8 then(if sw (kid 0)=true then vB (!decide ((kid 0).2.1≠0)) else na (kid 0))
 else if op=9 then(if jy (kid 0)=true then vN ((kid 0).2.1.natAbs:Int) else na (kid 0))
 else if op=10 then(if uc (kid 0)=true then vN ((ve (kid 0)).size:Int) else na (kid 0))
 else J1 op args
def Yh (op:Int) (a b:ae):ae:=if op=1 then rJ a b else if op=2 then LJ a b else if op=3 then QN a b else if op=4 then QM a b else if op=5 then FC a b else FE op a b
def dN:Nat→List ab→List ap→Int→ae
 | 0,_,_,_=>v0
 | n+1,f,l,k =>
  let x:=b8 f k
  let kid:=fun i:Nat=>dN n f l (x.2.2.2.2.2.1.getD i 0)
  if x.1=1 then x.2.2.1 else if x.1=2 then gn l x.2.2.2.1.1 else if x.1=3 then vE 2 else if x.1=4 then Vj (kid 0)
  else if x.1=6 then Wq x.2.1 (kl x) kid (jA (dN n f l) f l x.2.2.2.2.2.1) else Yh x.2.1 (kid 0) (kid 1)
section
variable {f:List ab} {l:List ap} (hl:l.length≤1000) (hf:f.length≤10000000)
include hl hf
theorem qh {k:Int} {x:ab} (hk0:0≤k) (hk:f[k.toNat]? = some x) {ks:List Int} {i:Int} : ∀(ys pre:List ap) (acc:List ae),l=pre++ys→acc.length+ys.length≤1000000→iY f l k ks (ks.length:Int) i l (l.length:Int) (pre.length:Int) acc=kb f l ks (ks.length:Int) (gt_ gu_ (i+1)) (acc++fX ys (b9 x))
 | [],pre,acc,he,hb=>by
  rw[vc,aL (ci he)]
  simp[fX]
 | y :: ys,pre,acc,he,hb=>by
  have hb':acc.length+(ys.length+1)≤1000000:=by simpa using hb
  rw[vc,aQ (cr he),bI he,cP hk0 hk,xw,Z1,Bk,Z1,bi he (by omega)]
  show(if jz (b9 x) y.1=true then _ else _)=_
  cases ha:jz (b9 x) y.1
  ·rw[Z2 (by decide),qh hk0 hk ys _ acc (aU he) (by omega)]
   simp[fX,ha]
  ·rw[Z3 rfl,bJ (Wm (by simp only[Z4]; omega)),qh hk0 hk ys _ _ (aU he) (by simp only[Z7,Z4]; omega)]
   simp[fX,ha]
omit hf in
theorem FQ (a:aB):(fX l a).length≤1000:=by
 unfold fX
 rw[cn_]
 exact bf_ (List.length_filter_le _ _) hl
theorem qi {x:ab} {ev:Int→ae} (hkl:x.2.2.2.2.2.1.length≤100) (hev : ∀ j∈x.2.2.2.2.2.1,0≤j∧j < f.length∧jv f j l=some ((ev j,()),())) :
  ∀(ys pre:List Int) (acc:List ae),x.2.2.2.2.2.1=pre++ys→acc.length≤pre.length*1000→kb f l x.2.2.2.2.2.1 (x.2.2.2.2.2.1.length:Int) (pre.length:Int) acc=some ((acc++jA ev f l ys,()),())
 | [],pre,acc,he,hb=>by
  rw[u5,aL (ci he)]
  simp[jA]
 | y :: ys,pre,acc,he,hb=>by
  have hlen:pre.length < 100:=by
   rw[he,Z7,aa_] at hkl
   omega
  obtain⟨y0,y1,y2⟩:=hev y (by rw[he]; simp)
  obtain⟨z,hz⟩ : ∃ z,f[y.toNat]? = some z:=⟨f[y.toNat]'(by omega),ah_ _⟩
  have hnz:b8 f y=z:=by
   unfold b8
   rw[ak_,hz]
   rfl
  rw[u5,aQ (cr he),bI he,cP y0 hz]
  unfold jA
  rw[hnz]
  by_cases h3:z.1=3
  ·rw[Z2 (by simp[h3]),Z3 h3,show iY f l y x.2.2.2.2.2.1 (x.2.2.2.2.2.1.length:Int) (pre.length:Int) l (l.length:Int) 0 acc=iY f l y x.2.2.2.2.2.1 (x.2.2.2.2.2.1.length:Int) (pre.length:Int) l (l.length:Int) (([]:List ap).length:Int) acc from rfl,qh hl hf y0 hz l [] acc rfl (by omega),bi he (by omega),qi hkl hev ys _ _ (aU he)]
   ·simp
   ·have:=FQ hl (b9 z)
    simp only[Z7,Z4]
    omega
  ·rw[Z3 (by simp[h3]),Z2 h3,y2,Z1,bJ (Wm (by simp only[Z4]; omega)),bi he (by omega),qi hkl hev ys _ _ (aU he)]
   ·simp
   ·simp only[Z7,Z4]
    omega
omit hf in
theorem Ip {ev:Int→ae} : ∀ ks:List Int,(jA ev f l ks).length≤ks.length*1001
 | []=>by simp[jA]
 | k :: ks=>by
  have:=Ip (ev:=ev) ks
  have h:=FQ hl (b9 (b8 f k))
  unfold jA
  rw[Z7,aa_]
  split
  ·omega
  ·rw[Z4]
   omega
omit hl hf in
theorem LX {ev:Int→ae} (hv : ∀ c∈l,au c.2.1=true) : ∀ ks:List Int,(∀ j∈ks,au (ev j)=true) → ∀ v∈jA ev f l ks,au v=true
 | [],_,v,h=>by cases h
 | k :: ks,he,v,h=>by
  unfold jA at h
  rcases bx_.1 h with h | h
  ·split at h
   ·unfold fX at h
    obtain⟨c,hc,rfl⟩:=fz_.1 h
    exact hv c (List.mem_filter.1 hc).1
   ·rw[bc_.1 h]
    exact he k (bn_ ..)
  ·exact LX hv ks (fun j hj=>he j (af_ _ hj)) v h
theorem LY {x:ab} (h:bR x=true):(x.1=1∧au x.2.2.1=true)∨x.1=2∨x.1=3∨(x.1=4∧kl x=1)∨(x.1=5∧kl x=2∧bA x.2.1 1 11=true)∨(x.1=6∧i7 x.2.1 (kl x)=true):=by
 unfold bR at h
 by_cases h1:x.1=1
 ·rw[Z3 h1] at h
  simp only[Z8] at h
  exact .inl ⟨h1,h.1.1.2⟩
 rw[Z2 h1] at h
 by_cases h2:x.1=2
 ·exact .inr (.inl h2)
 rw[Z2 h2] at h
 by_cases h3:x.1=3
 ·exact .inr (.inr (.inl h3))
 rw[Z2 h3] at h
 by_cases h4:x.1=4
 ·rw[Z3 h4] at h
  simp only[Z8,Z9] at h
  exact .inr (.inr (.inr (.inl ⟨h4,h.2⟩)))
 rw[Z2 h4] at h
 by_cases h5:x.1=5
 ·rw[Z3 h5] at h
  simp only[Z8,Z9] at h
  exact .inr (.inr (.inr (.inr (.inl ⟨h5,h.2,h.1.1.1.1⟩))))
 rw[Z2 h5] at h
 by_cases h6:x.1=6
 ·rw[Z3 h6] at h
  simp only[Z8,Z9] at h
  exact .inr (.inr (.inr (.inr (.inr ⟨h6,h.1.1.1⟩))))
 rw[Z2 h6] at h
 cases h
theorem LZ {op k:Int} (h:i7 op k=true):(op=5∧(k=2∨k=3))∨((op=1∨op=2∨op=3∨op=4∨op=6∨op=7)∧1≤k∧k≤10)∨((op=8∨op=9∨op=10)∧k=1):=by
 unfold i7 at h
 by_cases h5:op=5
 ·rw[Z3 h5] at h
  simp only[cx_,Z9] at h
  exact .inl ⟨h5,h⟩
 ·rw[Z2 h5] at h
  split at h
  ·rename_i h7
   have:=aH.1 h7
   have:=aH.1 h
   exact .inr (.inl ⟨by omega,by omega⟩)
  ·split at h
   ·rename_i h8
    have:=aH.1 h8
    simp only[Z9] at h
    exact .inr (.inr ⟨by omega,h⟩)
   ·cases h
omit hl hf in
theorem Tb {v:ae} (h:jy v=true):(if v.2.1 < IntKind.i64.wrap (0 - v.2.1) then IntKind.i64.wrap (0 - v.2.1) else v.2.1)=(v.2.1.natAbs:Int):=by
 have:=gm h
 rw[wr (by omega) (by omega)]
 split <;> omega
theorem L0 (A : ∀(i:Nat) (x:ab),f[i]? = some x→kX f i x) (hv : ∀ c∈l,au c.2.1=true) : ∀(n:Nat) (k:Int),0≤k→k < n→k < f.length →
  jv f k l=some ((dN n f l k,()),())∧au (dN n f l k)=true
 | 0,k,h0,h1,_=>by omega
 | n+1,k,h0,h1,h2=>by
  obtain⟨x,hx⟩ : ∃ y,f[k.toNat]? = some y:=⟨f[k.toNat]'(by omega),ah_ _⟩
  have hst:=A _ _ hx
  have hnx:b8 f k=x:=by
   unfold b8
   rw[ak_,hx]
   rfl
  have hk : ∀ j∈x.2.2.2.2.2.1,jv f j l=some ((dN n f l j,()),())∧au (dN n f l j)=true:=fun j hj=>by
   have:=hst.2 j hj
   exact L0 A hv n j this.1 (by omega) (by omega)
  rw[Vd,cP h0 hx]
  unfold dN
  simp only[hnx]
  rcases LY hl hf hst.1 with⟨k1,ho⟩ | k2 | k3 | ⟨k4,hkl⟩ | ⟨k5,hkl,hop⟩ | ⟨k6,hop⟩
  ·simp[k1,ho]
  ·simp[k2,FN (xs:=l) (by omega),LS hv]
  ·simp[k3,fN,nN (n:=2) (by decide) (by decide)]
  ·obtain⟨a,ha⟩ : ∃ a,x.2.2.2.2.2.1=[a]:=List.length_eq_one_iff.1 (by unfold kl at hkl; omega)
   obtain⟨e2,e3⟩:=hk a (by rw[ha]; simp)
   have hi : ∀(d:Int) (g:Int→Option ((ae×Unit)×Unit)),ix [a] 0 d g=g a:=fun d g=>cP (by decide) rfl
   simp[k4,ha,hi,e2,NU (dM e3),Y9]
  ·obtain⟨a,b,ha⟩ : ∃ a b,x.2.2.2.2.2.1=[a,b]:=by
    cases hq:x.2.2.2.2.2.1 with
    | nil=>unfold kl at hkl; rw[hq] at hkl; simp at hkl
    | cons a t=>cases t with
     | nil=>unfold kl at hkl; rw[hq] at hkl; simp at hkl
     | cons b t=>cases t with
      | nil=>exact⟨a,b,rfl⟩
      | cons c t=>unfold kl at hkl; rw[hq] at hkl; simp at hkl; omega
   obtain⟨e2,e3⟩:=hk a (by rw[ha]; simp)
   obtain⟨g2,g3⟩:=hk b (by rw[ha]; simp)
   have hi : ∀(d:Int) (g:Int→Option ((ae×Unit)×Unit)),ix [a,b] 0 d g=g a:=fun d g=>cP (by decide) rfl
   have hj : ∀(d:Int) (g:Int→Option ((ae×Unit)×Unit)),ix [a,b] 1 d g=g b:=fun d g=>cP (by decide) rfl
   have b1:=dM e3
   have b2:=dM g3
   simp only[k5,ha,hi,hj,e2,g2,Z1,O0 b1 b2,LK b1 b2,S0 b1 b2,Vk b1 b2,QR b1 b2,Vp b1 b2,List.getD_cons_zero,List.getD_cons_succ]
   unfold Yh
   by_cases o1:x.2.1=1
   ·simp[o1,J0]
   by_cases o2:x.2.1=2
   ·simp[o2,Wp]
   by_cases o3:x.2.1=3
   ·simp[o3,Y7]
   by_cases o4:x.2.1=4
   ·simp[o4,Y8]
   by_cases o5:x.2.1=5
   ·simp[o5,Yf]
   simp[o1,o2,o3,o4,o5,Yg]
  ·have hcs:=LZ hl hf hop
   have hn10:x.2.2.2.2.2.1.length≤10:=by unfold kl at hcs; omega
   have hne:1≤x.2.2.2.2.2.1.length:=by unfold kl at hcs; omega
   obtain⟨a,t,hat⟩ : ∃ a t,x.2.2.2.2.2.1=a :: t:=by
    cases hq:x.2.2.2.2.2.1 with
    | nil=>rw[hq] at hne; simp at hne
    | cons a t=>exact⟨a,t,rfl⟩
   obtain⟨e2,e3⟩:=hk a (by rw[hat]; simp)
   have hi : ∀(d:Int) (g:Int→Option ((ae×Unit)×Unit)),ix x.2.2.2.2.2.1 0 d g=g a:=fun d g=>cP (by decide) (by rw[hat]; rfl)
   have hg0:x.2.2.2.2.2.1.getD 0 0=a:=by rw[hat]; rfl
   rw[QI]
   have b1:=dM e3
   unfold Wq
   rcases hcs with⟨o5,hk2⟩ | ⟨oo,_⟩ | ⟨oo,_⟩
   ·
    have hm : ∀ j:Nat,j < x.2.2.2.2.2.1.length → ∃ c,x.2.2.2.2.2.1[j]? = some c∧x.2.2.2.2.2.1.getD j 0=c∧jv f c l=some ((dN n f l c,()),())∧au (dN n f l c)=true:=fun j hj=>by
     refine⟨x.2.2.2.2.2.1[j],ah_ _,by simp[ak_,hj],hk _ (List.getElem_mem _)⟩
    rw[QE]
    simp only[k6,o5,hi,hg0,e2,Z1,v7 b1,gf b1,rq,beq_self_eq_true,al_]
    unfold kl at hk2
    cases ht:sw (dN n f l a) with
    | false =>
     have:=yL (dN n f l a)
     simp[this,su]
    | true =>
     obtain⟨c,c1,c2,c4,c5⟩:=hm 1 (by omega)
     have hi1 : ∀(d:Int) (g:Int→Option ((ae×Unit)×Unit)),ix x.2.2.2.2.2.1 1 d g=g c:=fun d g=>cP (by decide) c1
     simp only[al_,hi1,c2,c4,Z1]
     by_cases hz:(dN n f l a).2.1=0
     ·rcases hk2 with h22 | h33
      ·have h22':x.2.2.2.2.2.1.length=2:=by omega
       simp[hz,v0,kl,h22',Wo]
      ·obtain⟨d,d1,d2,d4,d5⟩:=hm 2 (by omega)
       have hi2 : ∀(z:Int) (g:Int→Option ((ae×Unit)×Unit)),ix x.2.2.2.2.2.1 2 z g=g d:=fun z g=>cP (by decide) d1
       have h33':x.2.2.2.2.2.1.length=3:=by omega
       have d2':x.2.2.2.2.2.1[2]?.getD 0=d:=by rw[←ak_]; exact d2
       have d6 : ∀ hh:2 < x.2.2.2.2.2.1.length,x.2.2.2.2.2.1[2]'hh=d:=fun hh=>by
        rw[ah_ hh] at d1
        exact bl_ d1
       simp[hz,v0,kl,h33',hi2,d6,d4,d5]
     ·have c2':x.2.2.2.2.2.1[1]?.getD 0=c:=by rw[←ak_]; exact c2
      simp[hz,v0,c5,c2']
   ·
    have h5:x.2.1≠5:=by omega
    have h8:x.2.1≠8:=by omega
    have h9:x.2.1≠9:=by omega
    have h10:x.2.1≠10:=by omega
    have eb:=qi hl hf (x:=x) (ev:=dN n f l) (by omega) (fun j hj=>⟨(hst.2 j hj).1,by have:=(hst.2 j hj).2.1; omega,(hk j hj).1⟩) x.2.2.2.2.2.1 [] [] rfl (by simp)
    have hal:=Ip hl (f:=f) (ev:=dN n f l) x.2.2.2.2.2.1
    have hav:=LX (f:=f) (ev:=dN n f l) hv x.2.2.2.2.2.1 (fun j hj=>(hk j hj).2)
    simp only[ei_] at eb
    generalize jA (dN n f l) f l x.2.2.2.2.2.1=args at eb hal hav ⊢
    have eb':cQ f x l=some ((args,()),()):=by rw[LC]; exact eb
    have hlen:args.length≤100000000:=by omega
    simp only[eb',Z1,LV hlen hav,Q0 hlen hav,LW hlen hav]
    have hfo:=Vt (op:=x.2.1) hav hlen
    unfold J1 at hfo ⊢
    rcases oo with o | o | o | o | o | o <;> simp[k6,o] <;> simpa[o] using hfo
   ·
    simp only[k6,hi,hg0,e2,Z1]
    rw[QG]
    obtain⟨t,e4,e5⟩:=yN b1
    simp only[v7 b1,fA b1,e4,gf b1,rq,jx,Z1,show((0,0,({data := #[]}:Z0),()):ae)=v0 from rfl]
    rcases oo with o | o | o
    ·simp only[o]
     cases ht:sw (dN n f l a) with
     | false =>
      have:=yL (dN n f l a)
      simp[this,su]
     | true=>simp[v0,Wo]
    ·simp only[o]
     cases ht:jy (dN n f l a) with
     | false =>
      have:=yL (dN n f l a)
      simp[this,su]
     | true =>
      have hr:=gm ht
      have habs:=Tb ht
      have hok:au (vN ((dN n f l a).2.1.natAbs:Int))=true:=FO (by omega) (by omega)
      simp only[habs]
      simpa using hok
    ·simp only[o]
     cases ht:uc (dN n f l a) with
     | false =>
      have:=yL (dN n f l a)
      simp[this,su]
     | true =>
      have hz:=DX e3
      have hok:au (vN ((ve (dN n f l a)).size:Int))=true:=FO (by omega) (by omega)
      rw[e5 ht]
      simp[hok]
end
def fU (f:List ab) (l:List ap):ae:=let v:=dN f.length f l ((f.length:Int) - 1); if v.1=0 then vN 0 else v
section
variable {f:List ab} {l:List ap} (hl:l.length≤10000000) (hvs : ∀ c∈l,c.2.1.2.2.1.size≤9223372036854775807) (hf:f.length≤10000000) (hs : ∀ x∈f,x.2.2.1.2.2.1.size≤9223372036854775807) (hkl : ∀ x∈f,x.2.2.2.2.2.1.length≤10000000)
include hl hvs hf hs hkl
theorem Vu (h:oc l=true):l.length≤1000:=by
 unfold oc at h
 simp only[Z8,Z9] at h
 omega
theorem O6 (h1:dJ f=true) (h2:oc l=true):jv f ((f.length:Int) - 1) l=some ((dN f.length f l ((f.length:Int) - 1),()),())∧au (dN f.length f l ((f.length:Int) - 1))=true:=by
 have hb:bA (f.length:Int) 1 60=true:=by
  unfold dJ at h1
  simp only[Z8] at h1
  exact h1.1
 have:=aH.1 hb
 exact L0 (Vu hl hvs hf hs hkl h2) hf (iu h1) (vi h2) f.length _ (by omega) (by omega) (by omega)
theorem Vv (h1:dJ f=true) (h2:oc l=true):uR f l=some ((fU f l,()),()):=by
 obtain⟨e2,e3⟩:=O6 hl hvs hf hs hkl h1 h2
 rw[Vi,de (by omega) (by omega),e2]
 unfold fU
 by_cases h0:(dN f.length f l ((f.length:Int) - 1)).1=0 <;> simp[h0,jx]
end
def gJ (c:Nat):ag:=if c≤26 then [UInt8.ofNat (64+c)] else [65,UInt8.ofNat (38+c)]
theorem Tc : ∀ c:Fin 53,1≤c.val→c.val≤26→strOfNums ([(IntKind.u8.wrap (gt_ gu_ ((gt_ gu_ (65+(c.val:Int))) - 1)))]:List Int)=ba (gJ c.val):=by decide +kernel
theorem Td : ∀ c:Fin 53,1≤c.val → ¬c.val≤26→strOfNums ([(IntKind.u8.wrap (gt_ gu_ ((gt_ gu_ (65+(gt_ gu_ (ef_ (gt_ gu_ ((c.val:Int) - 1)) 26)))) - 1))),(IntKind.u8.wrap (gt_ gu_ (65+(du_ (gt_ gu_ ((c.val:Int) - 1)) 26))))]:List Int)=ba (gJ c.val):=by decide +kernel
theorem Te : ∀ c:Fin 53,1≤c.val→strOfNums ([(IntKind.u8.wrap (gt_ gu_ (65+(du_ (gt_ gu_ ((c.val:Int) - 1)) 26))))]:List Int)=ba (if c.val≤26 then gJ c.val else(gJ c.val).drop 1):=by decide +kernel
theorem Tf : ∀ c:Fin 53,1≤c.val→IntKind.i64.wrap (ef_ (gt_ gu_ ((c.val:Int) - 1)) 26)=if c.val≤26 then 0 else 1:=by decide +kernel
theorem C7 {c:Nat} (h1:1≤c) (h2:c≤52):qc (c:Int)=some ((ba (gJ c),()),()):=by
 rw[NB,gl]
 simp only[Z1]
 rw[show bA (c:Int) 1 52=true from aH.2 ⟨by omega,by omega⟩]
 simp only[aj_,Z5,ad_]
 by_cases h:c≤26
 ·rw[aQ (by omega),Tc ⟨c,by omega⟩ h1 h]
 ·rw[aL (by omega),Td ⟨c,by omega⟩ h1 h]
theorem qj (c:Nat):1≤(gJ c).length∧(gJ c).length≤2:=by
 unfold gJ
 split <;> simp
theorem C8 {c:Nat} (h1:1≤c) (h2:c≤52):tD (c:Int)=some ((ba (gJ c),()),()):=by
 have k1:=Te ⟨c,by omega⟩ h1
 have k2:=Tf ⟨c,by omega⟩ h1
 have kl:=qj c
 rw[No,eB]
 simp only[Z1]
 rw[show bA (c:Int) 1 52=true from aH.2 ⟨by omega,by omega⟩]
 simp only[aj_,Z5,ad_]
 simp only at k1 k2
 rw[mK,aQ (by omega),k1,k2]
 by_cases h:c≤26
 ·rw[Z3 h,Z3 h,bB (by simp only[bg_]; omega),mK,aL (by decide),bz_]
 ·rw[Z2 h,Z2 h,bB (by simp only[bg_,dv_]; omega),mK,aQ (by decide),bz_]
  have k3':strOfNums ([(IntKind.u8.wrap (gt_ gu_ (65+(du_ (gt_ gu_ ((1:Int) - 1)) 26))))]:List Int)=ba [65]:=by decide +kernel
  have k4':IntKind.i64.wrap (ef_ (gt_ gu_ ((1:Int) - 1)) 26)=0:=by decide +kernel
  rw[k3',k4',bB (by simp only[aa_,bg_,dv_]; omega),mK,aL (by decide)]
  congr 3
  unfold gJ
  rw[Z2 h]
  rfl
theorem D4 {P:Z0→Int→Option ((Int×Unit)×Unit)} {C:Int→Option ((Z0×Unit)×Unit)}
  (hP : ∀ x n,P x n=if decide (n≤52)=true then(C n).bind fun z1=>(if(Z6 z1.1.1 == Z6 x)=true then some ((n,()),()) else P x (gt_ gu_ (n+1))) else some ((0,()),()))
  (hC : ∀ c:Nat,1≤c→c≤52→C (c:Int)=some ((ba (gJ c),()),())) (w:ag) : ∀ k n:Nat,n+k=53→1≤n→P (ba w) (n:Int)=some ((((((List.range' n k).find? fun m=>decide (gJ m=w)).getD 0:Nat):Int),()),())
 | 0,n,h,_=>by
  rw[hP,aL (by omega)]
  rfl
 | k+1,n,h,h1=>by
  rw[hP,aQ (by omega),hC n h1 (by omega)]
  simp only[Z1,dn,List.range'_succ,List.find?_cons]
  by_cases he:gJ n=w
  ·simp[he]
  ·rw[Z2 (by simpa using he),wr (by omega) (by omega)]
   simp only[he,decide_false]
   exact D4 hP hC w k (n+1) (by omega) (by omega)
def kK (w:ag):Nat:=((List.range' 1 52).find? fun m=>decide (gJ m=w)).getD 0
theorem NV (w:ag):DE (ba w)=some ((((kK w:Nat):Int),()),()):=by
 rw[NC]
 exact D4 (fun x n=>GZ) (fun c h1 h2=>C7 h1 h2) w 52 1 rfl (ag_ _)
theorem NW (w:ag):qa (ba w)=some ((((kK w:Nat):Int),()),()):=by
 rw[Nt]
 exact D4 (fun x n=>GY) (fun c h1 h2=>C8 h1 h2) w 52 1 rfl (ag_ _)
theorem FR : ∀ m:Fin 53,1≤m.val→kK (gJ m.val)=m.val:=by decide +kernel
theorem Tg {w:ag} (h:1≤kK w):kK w≤52∧gJ (kK w)=w:=by
 unfold kK at h ⊢
 cases hf:(List.range' 1 52).find? fun m=>decide (gJ m=w) with
 | none=>rw[hf] at h; simp at h
 | some m =>
  have h1:=List.find?_some hf
  have h2:=List.mem_of_find?_eq_some hf
  rw[List.mem_range'_1] at h2
  simp only[ch_]
  exact⟨by omega,by simpa using h1⟩
def py (b:Bool):ag:=if b=true then [36] else []
def rX (c r:Nat) (fc fr:Bool):ag:=py fc++(gJ c++(py fr++am_ r))
def fj (p:aM):ag:=rX p.1.1.toNat p.1.2.1.toNat p.2.1 p.2.2.1
theorem bK {r:aw}:aA r=true↔(1≤r.1∧r.1≤52)∧1≤r.2.1∧r.2.1≤99:=by
 unfold aA
 rw[Z8,aH,aH]
theorem sx {r:Nat} (h:r≤99):(am_ r).length≤2:=FA 1 r (by omega)
theorem nO (p:aM):mw p=some ((if aA p.1=true then ba (fj p) else ba [],()),()):=by
 rw[JA,l5]
 simp only[Z1]
 cases hr:aA p.1 with
 | false=>rfl
 | true =>
  simp only[aj_,Z5,ad_,al_]
  obtain⟨⟨c,r,u⟩,fc,fr,u'⟩:=p
  obtain⟨⟨h1,h2⟩,h3,h4⟩:=bK.1 hr
  simp only at h1 h2 h3 h4 ⊢
  obtain⟨c,rfl⟩ : ∃ n:Nat,c=n:=⟨c.toNat,by omega⟩
  obtain⟨r,rfl⟩ : ∃ n:Nat,r=n:=⟨r.toNat,by omega⟩
  have kc:=qj c
  have kr:=sx (r:=r) (by omega)
  have e1:qc (c:Int)=some ((ba (gJ c),()),()):=C7 (by omega) (by omega)
  have e2:kC (r:Int)=some ((ba (am_ r),()),()):=by rw[vX (by omega) (by omega),l6]
  unfold fj rX
  simp only[dd_]
  cases fc <;> cases fr <;> simp only[e1,e2,Z1,al_,ad_,Z5,py]
  all_goals
   repeat rw[bB (by first | omega | (simp only[Z7,aa_,bg_]; omega))]
   simp
theorem nQ (p:aM):c8 p=some ((if aA p.1=true then ba (fj p) else ba [],()),()):=by
 rw[Jl,iz]
 simp only[Z1]
 cases hr:aA p.1 with
 | false=>rfl
 | true =>
  simp only[aj_,Z5,ad_,al_]
  obtain⟨⟨c,r,u⟩,fc,fr,u'⟩:=p
  obtain⟨⟨h1,h2⟩,h3,h4⟩:=bK.1 hr
  simp only at h1 h2 h3 h4 ⊢
  obtain⟨c,rfl⟩ : ∃ n:Nat,c=n:=⟨c.toNat,by omega⟩
  obtain⟨r,rfl⟩ : ∃ n:Nat,r=n:=⟨r.toNat,by omega⟩
  have kc:=qj c
  have kr:=sx (r:=r) (by omega)
  have e1:tD (c:Int)=some ((ba (gJ c),()),()):=C8 (by omega) (by omega)
  have e2:dR (r:Int)=some ((ba (am_ r),()),()):=by rw[Be (by omega) (by omega),l6]
  unfold fj rX
  simp only[dd_]
  cases fc <;> cases fr <;> simp only[e1,e2,Z1,al_,ad_,Z5,py]
  all_goals
   repeat rw[bB (by first | omega | (simp only[Z7,aa_,bg_]; omega))]
   simp
theorem C9 {w:ag} (hw:w.length≤18) : ∀(ys pre:ag),w=pre++ys→pre.all dy=true→oC (ba w) (bF 0 pre:Nat) (pre.length:Int)=some ((if ys.all dy=true then((bF 0 w:Nat):Int) else 0,ys.all dy,()),())
 | [],pre,h,hp=>by
  rw[bz_] at h
  subst h
  rw[A9,aL (by rw[az]; omega)]
  rfl
 | y :: ys,pre,h,hp=>by
  have hl:pre.length < w.length:=by rw[h]; simp
  rw[A9,aQ (by rw[az]; omega),kZ h]
  by_cases h1:y.toNat < 48
  ·have hd:dy y=false:=by simp[dy]; omega
   rw[aQ (by omega)]
   simp[hd]
  ·rw[aL (by omega),kZ h]
   by_cases h2:57 < y.toNat
   ·have hd:dy y=false:=by simp[dy]; omega
    rw[aQ (by omega)]
    simp[hd]
   ·have hd:dy y=true:=by simp[dy]; omega
    rw[aL (by omega),kZ h]
    have hv:=B7 pre 0 hp
    have hv2:10 ^ pre.length≤10 ^ 17:=Nat.pow_le_pow_right (by decide) (by omega)
    have hv3:bF 0 pre < 100000000000000000:=by
     rw[Nat.zero_add,Nat.one_mul] at hv
     exact cj_ hv hv2
    clear hv hv2
    have e1:IntKind.u8.wrap ((y.toNat:Int) - 48)=((y.toNat - 48:Nat):Int):=by rw[Zy (by omega) (by omega)]; omega
    have w1:IntKind.i64.wrap (((bF 0 pre:Nat):Int)*10)=((bF 0 pre:Nat):Int)*10:=wr (by omega) (by omega)
    have w2:IntKind.i64.wrap ((y.toNat - 48:Nat):Int)=((y.toNat - 48:Nat):Int):=wr (by omega) (by omega)
    rw[e1,w1,w2,wr (n:=((bF 0 pre:Nat):Int)*10+((y.toNat - 48:Nat):Int)) (by omega) (by omega),wr (n:=(pre.length:Int)+1) (by omega) (by omega)]
    have e2:((bF 0 pre:Nat):Int)*10+((y.toNat - 48:Nat):Int)=((bF 0 (pre++[y]):Nat):Int):=by rw[Bi]; omega
    have e3:(pre.length:Int)+1=((pre++[y]).length:Int):=by simp
    rw[e2,e3,C9 hw ys (pre++[y]) (by rw[h]; simp) (by simp[hp,hd])]
    simp[hd]
def cW (w:ag) (m:Nat):Bool:=jM w && decide (w.length≤m)
theorem Bl (w:ag) {m:Nat} (hm:m≤18):dk (ba w) (m:Int)=some ((if cW w m=true then((bF 0 w:Nat):Int) else 0,cW w m,()),()):=by
 rw[SL,az]
 cases w with
 | nil =>
  rw[aQ (by simp)]
  rfl
 | cons y ys =>
  have hlen:(y :: ys:ag).length=ys.length+1:=rfl
  rw[aL (by omega)]
  by_cases h:(y :: ys:ag).length≤m
  ·have hle:decide ((y :: ys:ag).length≤m)=true:=ba_ h
   rw[aL (by omega),nu]
   have hl:=C9 (w:=y :: ys) (by omega) (y :: ys) [] rfl rfl
   have hl:oC (ba (y :: ys)) 0 0=_:=hl
   have h0n:decide (1≤(y :: ys:ag).length)=true:=ba_ (by omega)
   by_cases h0:y=48
   ·subst h0
    rw[Z3 (by rfl)]
    by_cases h1:ys.length=0
    ·rw[aL (by omega),hl]
     have h1':decide ((48 :: ys:ag).length=1)=true:=ba_ (by omega)
     have e:cW (48 :: ys) m=(48 :: ys:ag).all dy:=by
      unfold cW jM
      rw[hle,h0n,h1']
      simp
     rw[e]
    ·rw[aQ (by omega)]
     have h1':decide ((48 :: ys:ag).length=1)=false:=bm_ (by omega)
     have e:cW (48 :: ys) m=false:=by
      unfold cW jM
      rw[h1']
      simp
     rw[e]
     rfl
   ·have h0' : ¬((y.toNat:Int) == 48)=true:=by
     simp only[bk_]
     intro e
     apply h0
     apply UInt8.toNat_inj.1
     show y.toNat=48
     omega
    rw[Z2 h0',hl]
    have e:cW (y :: ys) m=(y :: ys:ag).all dy:=by
     have h2:decide ((y :: ys:ag).head? = some 48)=false:=bm_ (by simpa using h0)
     unfold cW jM
     rw[hle,h0n,h2]
     simp
    rw[e]
  ·rw[aQ (by omega)]
   have e:cW (y :: ys) m=false:=by
    unfold cW
    rw[bm_ h]
    simp
   rw[e]
   rfl
theorem D5 {w:ag} {m:Nat} (h:cW w m=true):am_ (bF 0 w)=w∧w.length≤m:=by
 unfold cW at h
 rw[Z8,Z9] at h
 exact⟨(O4 w h.1).1,h.2⟩
theorem Bm {u m:Nat} (h:(am_ u).length≤m):cW (am_ u) m=true:=by
 unfold cW
 rw[qg]
 simpa using h
end Go.Proofs.YtipnjpfdlolhmaaGreatDoor.Abs
