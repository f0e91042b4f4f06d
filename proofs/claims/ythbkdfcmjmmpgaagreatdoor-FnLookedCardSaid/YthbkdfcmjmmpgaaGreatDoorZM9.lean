/- Plain laws: right sheets: what both sides ask is one thing. -/
import Derived.Test.YthbkdfcmjmmpgaaGreatDoorZM8
set_option linter.unusedVariables false
set_option linter.unusedSimpArgs false
set_option linter.unusedSectionVars false
open Bool renaming and_eq_true→ag_,and_true→er_,eq_false_iff→cf_,eq_iff_iff→bw_,false_eq_true→ak_,not_eq_true'→dr_,not_false→bm_,not_true→bc_,or_eq_true→cx_,true_and→bt_
open ByteArray renaming toList→ah_
open Go.Lib renaming decDigits→az_
open Int renaming toNat_of_nonneg→cp_
open List renaming all_append→cr_,all_cons→cb_,all_eq_true→cl_,append_assoc→cn_,append_nil→bv_,cons_append→cs_,dropWhile_cons_of_neg→bj_,drop_left'→gc_,drop_succ_cons→bu_,drop_zero→cu_,eq_nil_or_concat→gk_,find?_cons→dn_,getElem?_append_left→bz_,getElem?_of_mem→gv_,getLast?_append→ff_,getLast?_singleton→es_,head?_cons→dg_,isPrefixOf_iff_prefix→dt_,length_append→af_,length_cons→aj_,length_drop→dp_,length_nil→bl_,length_singleton→ad_
open Option renaming bind_some→ab_,some_or→gm_
open Option.some renaming injEq→bd_,inj→ch_
open Prod renaming ext→eq_
open _root_ renaming ByteArray→aa_,absurd→bh_,congrArg→an_,decide_eq_false→bf_,decide_eq_true_eq→ai_,decide_eq_true→bb_,decide_true→ck_,if_false→av_,if_neg→ac_,if_pos→ae_,if_true→ba_
namespace Go.Proofs.YthbkdfcmjmmpgaaGreatDoor.Abs
open Go
noncomputable def dk (x:aa_):aa_×Bool:=if h:x.size≤9223372036854775807 then(ba (A3 h).choose,(A3 h).choose_spec.choose) else(eS,false)
theorem kO {x:aa_} (h:x.size≤9223372036854775807):vd x=some (((dk x).1,(dk x).2,()),())∧d7 x=some (((dk x).1,(dk x).2,()),())∧(dk x).1.size≤200:=by
 have hs:=(A3 h).choose_spec.choose_spec
 unfold dk
 rw[dif_pos h]
 exact⟨hs.1,hs.2.1,by rw[aK]; exact hs.2.2⟩
noncomputable def eA (x:aa_):Bool:=(dk x).2 && !decide (x=eS) && decide ((dk x).1=x)
theorem qI {x:aa_} (h:x.size≤9223372036854775807):pq x=some ((eA x,()),()):=by
 rw[Om,(kO h).1]
 simp only[ab_,sG]
 unfold eA
 cases (dk x).2 <;> by_cases hx:x=eS <;> simp[hx]
def cl (a b:am):Bool:=decide (a.2.1 < b.2.1) || (decide (a.2.1=b.2.1) && decide (a.1 < b.1))
theorem Fb (a b:am):oV a b=some ((cl a b,()),()):=by
 rw[EY]
 unfold cl
 by_cases h1:a.2.1 < b.2.1
 ·simp[h1]
 ·by_cases h2:a.2.1=b.2.1 <;> simp[h1,h2]
theorem Iv (a b:am) : ∃ k:Int,va a b=some ((k,()),())∧(k < 0↔cl a b=true):=by
 rw[Hy,C7,C7]
 simp only[ab_]
 rw[OK (by simp)]
 refine⟨_,rfl,?_⟩
 unfold cl
 by_cases h1:a.2.1 < b.2.1
 ·simp[qz,h1]
 ·by_cases h2:b.2.1 < a.2.1
  ·have h3 : ¬a.2.1=b.2.1:=by omega
   simp[qz,h1,h2,h3]
  ·have h3:a.2.1=b.2.1:=by omega
   by_cases h4:a.1 < b.1
   ·simp[qz,h1,h2,h3,h4]
   ·by_cases h5:b.1 < a.1
    ·simp[qz,h1,h2,h3,h4,h5]
    ·simp[qz,h1,h2,h3,h4,h5]
noncomputable def Du:Option ae→List ae→Bool
 | _,[]=>true
 | o,c :: l=>bM c.1 && eA c.2.1 && (match o with | none=>true | some p=>cl p.1 c.1) && Du (some c) l
noncomputable def aO (s:List ae):Bool:=Du none s && decide (s.length≤120)
section
variable {s:List ae} (hs : ∀ c∈s,c.2.1.size≤9223372036854775807) (hl:s.length≤1000000000)
include hs hl
theorem BI : ∀(ys pre:List ae),s=pre++ys→oh s s (s.length:Int) (pre.length:Int)=some ((Du pre.getLast? ys && decide (s.length≤120),()),())
 | [],pre,h=>by
  rw[za,aE (br h)]
  simp only[Du,bt_]
  congr 3
  rw[bw_,ai_,ai_]
  omega
 | y :: ys,pre,h=>by
  have hy:=hs y (by rw[h]; simp)
  have ih:=BI ys (pre++[y]) (aC h)
  rw[ff_] at ih
  simp only[es_,Option.or_some,gm_] at ih
  rw[za,aJ (bF h),bK h,pD]
  simp only[ab_,Du]
  cases hr:bM y.1 with
  | false=>simp
  | true =>
   simp only[bc_,ak_,av_,bt_]
   rcases gk_ pre with hp | ⟨q,z,hp⟩
   ·subst hp
    rw[aE (by simp),qI hy]
    simp only[ab_,List.getLast?_nil,er_]
    cases eA y.2.1 with
    | false=>simp
    | true =>
     simp only[bc_,ak_,av_,bt_]
     rw[aM (pre:=[]) h (by omega)]
     exact ih
   ·rw[List.concat_eq_append] at hp
    subst hp
    have hz:s=q++z :: (y :: ys):=by rw[h]; simp
    have hql:((q++[z]).length:Int) - 1=(q.length:Int):=by simp
    have hqs:q.length < s.length:=by rw[hz]; simp
    rw[aJ (by simp),hql,wr (by omega) (by omega),bK hz]
    obtain⟨k,k1,k2⟩:=Iv z.1 y.1
    rw[k1]
    simp only[ab_,ff_,es_,gm_]
    by_cases hk:k < 0
    ·rw[aE (by omega),qI hy,k2.1 hk]
     simp only[ab_,er_]
     cases eA y.2.1 with
     | false=>simp
     | true =>
      simp only[bc_,ak_,av_,bt_]
      rw[aM h (by omega)]
      exact ih
    ·have:cl z.1 y.1=false:=by
      rw[cf_]
      exact fun e=>hk (k2.2 e)
     rw[aJ (by omega),this]
     simp
theorem xO:ve s=some ((aO s,()),()):=by
 rw[QO]
 exact BI hs hl s [] rfl
end
def ZR (c:UInt8):Bool:=decide (c=43) || decide (c=45) || decide (c=42) || decide (c=47) || decide (c=38) || decide (c=61) || decide (c=60) || decide (c=62) || decide (c=41) || decide (c=44)
def BJ:aj→Bool
 | []=>true
 | c :: _=>ZR c
theorem JS (c:UInt8):ZR c=true→bb c=false∧c≠32∧c≠34∧c≠58∧c≠40∧Dq c=false :=
 qB (p:=fun c=>ZR c=true→bb c=false∧c≠32∧c≠34∧c≠58∧c≠40∧Dq c=false) (by decide +kernel) c
theorem UR {r:aj} (h:BJ r=true):bl r=r:=by
 cases r with
 | nil=>rfl
 | cons c t=>exact bj_ (by rw[(JS c h).2.2.2.2.2]; decide)
theorem US {r:aj} (h:BJ r=true):r.takeWhile bb=[]∧r.dropWhile bb=r:=by
 cases r with
 | nil=>exact⟨rfl,rfl⟩
 | cons c t =>
  have:=(JS c h).1
  exact⟨List.takeWhile_cons_of_neg (by rw[this]; decide),bj_ (by rw[this]; decide)⟩
theorem ZS {r:aj} (h:BJ r=true):r.head? ≠ some 34∧r.head? ≠ some 58∧r.head? ≠ some 32:=by
 cases r with
 | nil=>exact⟨by decide,by decide,by decide⟩
 | cons c t =>
  obtain⟨_,h1,h2,h3,_⟩:=JS c h
  simp only[dg_,ne_eq,bd_]
  exact⟨h2,h3,h1⟩
theorem xe {w r:aj} (hw:w.all bb=true) (h:r.takeWhile bb=[]∧r.dropWhile bb=r):(w++r).takeWhile bb=w∧(w++r).dropWhile bb=r:=by
 rw[cl_] at hw
 obtain⟨h1,h2⟩:=h
 rw[List.takeWhile_append_of_pos hw,List.dropWhile_append_of_pos hw,h1,h2,bv_]
 exact⟨rfl,rfl⟩
theorem Ge {w r:aj} (hw:w.all bb=true) (h:BJ r=true):(w++r).takeWhile bb=w∧(w++r).dropWhile bb=r:=xe hw (US h)
theorem UT {op:Int} (h0:1≤op) (h1:op≤11) (t:aj):BJ (dx op++t)=true:=by
 have : ∀ k:Fin 12,1≤k.val→(match dx (k.val:Int) with | []=>false | c :: _=>ZR c)=true:=by decide +kernel
 have h:=this ⟨op.toNat,by omega⟩ (by simp only; omega)
 simp only[cp_ (show 0≤op by omega)] at h
 cases ho:dx op with
 | nil=>rw[ho] at h; cases h
 | cons c l =>
  rw[ho] at h
  exact h
def W1 (c:UInt8):Bool:=bb c || decide (c=34) || decide (c=35) || decide (c=40) || decide (c=45)
theorem Sr (c:UInt8):W1 c=true→c≠32∧c≠61∧c≠62∧Dq c=false :=
 qB (p:=fun c=>W1 c=true→c≠32∧c≠61∧c≠62∧Dq c=false) (by decide +kernel) c
def LC:aj→Bool
 | []=>false
 | c :: _=>W1 c
theorem UU {m:aj} (h:LC m=true):bl m=m:=by
 cases m with
 | nil=>cases h
 | cons c t=>exact bj_ (by rw[(Sr c h).2.2.2]; decide)
theorem rJ {m:aj} (h:LC m=true) (r:aj):LC (m++r)=true:=by
 cases m with
 | nil=>cases h
 | cons c t=>exact h
theorem W2 {op:Int} (h0:1≤op) (h1:op≤11) {t:aj} (h:LC t=true):ej (dx op++t)=op:=by
 cases t with
 | nil=>cases h
 | cons c t =>
  obtain⟨_,h2,h3,_⟩:=Sr c h
  have:op=1∨op=2∨op=3∨op=4∨op=5∨op=6∨op=7∨op=8∨op=9∨op=10∨op=11:=by omega
  rcases this with rfl | rfl | rfl | rfl | rfl | rfl | rfl | rfl | rfl | rfl | rfl <;> simp[dx,ej,gO,h2,h3]
theorem Gf (op:Int):1≤cE op∧cE op≤4:=by
 unfold cE
 repeat' split
 all_goals omega
theorem MN {r:aj} (h:r=[]∨r.head? = some 41∨r.head? = some 44):BJ r=true∧ej r=0:=by
 rcases h with rfl | h | h
 ·exact⟨rfl,rfl⟩
 ·obtain⟨t,rfl⟩:=iE h
  exact⟨rfl,rfl⟩
 ·obtain⟨t,rfl⟩:=iE h
  exact⟨rfl,rfl⟩
theorem W3 {l:aj} (h:l.all dw=true):l.all bb=true:=by
 rw[cl_] at h ⊢
 intro c hc
 unfold bb
 rw[h c hc]
 simp
theorem acy {l:aj} (h:l.all eQ=true):l.all bb=true:=by
 rw[cl_] at h ⊢
 intro c hc
 unfold bb
 rw[h c hc]
 simp
theorem oL {p:bX} (h:bM p.1=true):(fp p).all bb=true ∧ ∃ c t,fp p=c :: t∧(c=36∨eQ c=true):=by
 obtain⟨c,r,fc,fr,rfl,h1,h2,h3,h4⟩:=w7 h
 have hu:(gK c).all eQ=true:=JF ⟨c,by omega⟩ h1
 have hd:=D5 (rx r)
 have hx : ∀ b,(qD b).all bb=true:=by decide
 show(tK c r fc fr).all bb=true ∧ ∃ d t,tK c r fc fr=d :: t∧_
 unfold tK
 refine⟨?_,?_⟩
 ·rw[cr_,cr_,cr_,hx,hx,acy hu,W3 hd]
  rfl
 ·cases fc with
  | true=>exact⟨36,_,rfl,.inl rfl⟩
  | false =>
   cases hcl:gK c with
   | nil =>
    have:=(rz c).1
    rw[hcl] at this
    simp at this
   | cons y l =>
    rw[hcl] at hu
    simp only[cb_,ag_] at hu
    exact⟨y,_,rfl,.inr hu.1⟩
theorem ZT (c:UInt8):(c=36∨eQ c=true)→c≠39∧c≠35∧c≠45∧c≠34∧c≠40∧dw c=false :=
 qB (p:=fun c=>(c=36∨eQ c=true)→c≠39∧c≠35∧c≠45∧c≠34∧c≠40∧dw c=false) (by decide +kernel) c
theorem Y3 {p:bX} (h:bM p.1=true):(bo (fp p)).2=false:=by
 obtain⟨_,c,t,e,hc⟩:=oL h
 obtain⟨n1,n2,n3,_,_,n4⟩:=ZT c hc
 have hp:=pG h
 have k : ∀ w:aj,(cU w).2=false→fp p≠w:=fun w hw e=>by
  rw[←e,hp] at hw
  cases hw
 have k1:=k jr (by decide +kernel)
 have k2:=k jV (by decide +kernel)
 have hv:w8 (fp p)=(9,0,eS,()):=by
  unfold w8
  rw[ac_ k1,ac_ k2,e,ac_ (by simp),ac_ (by simpa using n1),ac_ (by simpa using n2),ac_ (by simpa using n3),ac_]
  intro hr
  unfold c8 ki at hr
  simp[n4] at hr
 unfold bo
 rw[hv]
 rfl
theorem W4 {f:List ab} {k:Nat} {x:ab} (h:f[k]? = some x):f.take k++[x]=f.take (k+1):=by
 rw[List.take_add_one,h]
 rfl
theorem Dv {f:List ab} (hf:f.length≤60) {k:Nat} {x:ab} (h:f[k]? = some x) (l:aj):aU x (ba l) false (f.take k)=some (((k:Int),()),((ba l,f.take (k+1),false,()),())):=by
 have hk:=(List.getElem?_eq_some_iff.1 h).1
 have hl:(f.take k).length=k:=by rw[List.length_take]; omega
 obtain⟨i,h1,h2⟩:=zy (x:=x) (l:=l) (b:=false) (ns:=f.take k) (by omega)
 rw[h1,h2 rfl (by omega),hl,ae_ ⟨rfl,by omega⟩,W4 h,bf_ (by omega)]
 rfl
def Iw (f:List ab) (n:Nat) (call:Bool):List Int→Int→Int→Prop
 | [],s,e=>s=e
 | y :: ys,s,e=>(∃ h,dR f n y=some (s,h))∧(fK f y=true→call=true)∧Iw f n call ys (y+1) e
theorem PH {f:List ab} {n:Nat} {call:Bool} {kid m s e:Int} (hc : ∃ h,dR f n kid=some (m,h)) (ha:fK f kid=true→call=true) (he:kid+1=e) : ∀ {l:List Int} {s:Int},Iw f n call l s m→Iw f n call (l++[kid]) s e
 | [],s,h=>by
  have h:s=m:=h
  subst h
  exact⟨hc,ha,he⟩
 | y :: ys,s,h=>⟨h.1,h.2.1,PH (s:=s) hc ha he h.2.2⟩
theorem W5 {f:List ab} {n:Nat} {call:Bool} : ∀ {l:List Int} {cur:Int} {h:Nat} {s:Int} {h':Nat},fu (dR f n) f call l cur h=some (s,h')→Iw f n call l.reverse s cur
 | [],cur,h,s,h',e=>by
  simp only[fu,bd_,Prod.mk.injEq] at e
  exact e.1.symm
 | kid :: l,cur,h,s,h',e=>by
  simp only[fu] at e
  split at e
  ·rename_i hk
   rw[Option.bind_eq_some_iff] at e
   obtain⟨p,hp,e⟩:=e
   rw[List.reverse_cons]
   exact PH (s:=s) ⟨p.2,hp⟩ hk.2.2 (by omega) (W5 e)
  ·cases e
theorem rK {f:List ab} {n:Nat} {k s:Int} {h:Nat} (e:dR f (n+1) k=some (s,h)):0≤k ∧ ∃ x,f[k.toNat]? = some x∧cq f k=x∧dj x=true∧Iw f n (decide (x.1=6)) x.2.2.2.2.2.1 s k:=by
 simp only[dR] at e
 split at e
 ·rename_i h0
  split at e
  ·cases e
  ·rename_i x hx
   split at e
   ·rename_i hok
    refine⟨h0,x,hx,?_,hok,?_⟩
    ·unfold cq
     rw[List.getD_eq_getElem?_getD,hx]
     rfl
    ·have:=W5 e
     rwa[List.reverse_reverse] at this
   ·cases e
 ·cases e
theorem Dw {f:List ab} {k:Int} {x:ab} (h:cq f k=x):fK f k=decide (x.1=3):=by
 unfold cq at h
 unfold fK
 rw[h]
theorem rL {x y:ab} (h1:x.1=y.1) (h2:x.2.1=y.2.1) (h3:x.2.2.1=y.2.2.1) (h4:x.2.2.2.1=y.2.2.2.1) (h5:x.2.2.2.2.1=y.2.2.2.2.1) (h6:x.2.2.2.2.2.1=y.2.2.2.2.2.1):x=y :=
 eq_ h1 (eq_ h2 (eq_ h3 (eq_ h4 (eq_ h5 (eq_ h6 rfl)))))
theorem kl0 {x:ab} (h:kl x=0):x.2.2.2.2.2.1=[]:=by
 unfold kl at h
 exact List.eq_nil_of_length_eq_zero (by omega)
theorem kl1 {x:ab} (h:kl x=1) : ∃ a,x.2.2.2.2.2.1=[a]:=by
 unfold kl at h
 exact List.length_eq_one_iff.1 (by omega)
theorem kl2 {x:ab} (h:kl x=2) : ∃ a b,x.2.2.2.2.2.1=[a,b]:=by
 unfold kl at h
 match hx:x.2.2.2.2.2.1,h with
 | [a,b],_=>exact⟨a,b,rfl⟩
inductive NK:ab→Prop
 | con (v:ac) (h:az v=true) (h0:v.1≠0) (h1:v.1=1→0≤v.2.1):NK (nC v)
 | cell (p:bX) (h:bM p.1=true):NK (nP p)
 | area (p q:bX) (h:lC (p.1,q.1,())=true):NK (nA p q)
 | neg (a:Int):NK (4,0,v0,p0,p0,[a],())
 | bin (op a b:Int) (h0:1≤op) (h1:op≤11):NK (5,op,v0,p0,p0,[a,b],())
 | call (op:Int) (ks:List Int) (h:kM op (ks.length:Int)=true):NK (6,op,v0,p0,p0,ks,())
theorem Ee {x:ab} (h:dj x=true):NK x:=by
 unfold dj at h
 by_cases c1:x.1=1
 ·rw[ae_ c1] at h
  simp only[ag_,cx_,ai_,dr_,decide_eq_false_iff_not] at h
  obtain⟨⟨⟨⟨⟨⟨a1,a2⟩,a3⟩,a4⟩,a5⟩,a6⟩,a7⟩:=h
  have e:x=nC x.2.2.1:=rL c1 a1 rfl a2 a3 (kl0 a4)
  rw[e]
  exact .con _ a5 a6 (fun k=>a7.elim (fun n=>bh_ k n) id)
 ·rw[ac_ c1] at h
  by_cases c2:x.1=2
  ·rw[ae_ c2] at h
   simp only[ag_,ai_] at h
   obtain⟨⟨⟨⟨a1,a2⟩,a3⟩,a4⟩,a5⟩:=h
   have e:x=nP x.2.2.2.1:=rL c2 a1 a2 rfl a3 (kl0 a4)
   rw[e]
   exact .cell _ a5
  ·rw[ac_ c2] at h
   by_cases c3:x.1=3
   ·rw[ae_ c3] at h
    simp only[ag_,ai_] at h
    obtain⟨⟨⟨a1,a2⟩,a4⟩,a5⟩:=h
    have e:x=nA x.2.2.2.1 x.2.2.2.2.1:=rL c3 a1 a2 rfl rfl (kl0 a4)
    rw[e]
    exact .area _ _ a5
   ·rw[ac_ c3] at h
    by_cases c4:x.1=4
    ·rw[ae_ c4] at h
     simp only[ag_,ai_] at h
     obtain⟨⟨⟨⟨a1,a2⟩,a3⟩,a4⟩,a5⟩:=h
     obtain⟨a,ha⟩:=kl1 a5
     have e:x=(4,0,v0,p0,p0,[a],()):=rL c4 a1 a2 a3 a4 ha
     rw[e]
     exact .neg a
    ·rw[ac_ c4] at h
     by_cases c5:x.1=5
     ·rw[ae_ c5] at h
      simp only[ag_,ai_] at h
      obtain⟨⟨⟨⟨a1,a2⟩,a3⟩,a4⟩,a5⟩:=h
      obtain⟨a,b,ha⟩:=kl2 a5
      obtain⟨g0,g1⟩:=bm.1 a1
      have e:x=(5,x.2.1,v0,p0,p0,[a,b],()):=rL c5 rfl a2 a3 a4 ha
      rw[e]
      exact .bin _ a b g0 g1
     ·rw[ac_ c5] at h
      by_cases c6:x.1=6
      ·rw[ae_ c6] at h
       simp only[ag_,ai_] at h
       obtain⟨⟨⟨a1,a2⟩,a3⟩,a4⟩:=h
       have e:x=(6,x.2.1,v0,p0,p0,x.2.2.2.2.2.1,()):=rL c6 rfl a2 a3 a4 rfl
       rw[e]
       exact .call _ _ a1
      ·rw[ac_ c6] at h
       cases h
theorem abV {deep:Int} {l:aj} {ns:List ab} (h0:0≤deep) (h1:deep+(l.length:Int)≤400) (h:(bl l).head? = some 45) :
  eV deep (ba l) false ns=(eV (deep+1) (ba ((bl l).drop 1)) false ns).bind fun z=>aU (UM z.1.1) z.2.1.1 z.2.1.2.2.1 z.2.1.2.1:=by
 rw[li,aE (by omega)]
 simp only[ak_,av_,gM]
 rw[show(⟨#[45]⟩:aa_)=ba [45] from rfl,da (by omega)]
 simp only[ab_,io (c:=45) (.inl rfl),ad_]
 simp only[h,ck_,ba_]
 rw[wr (by omega) (by omega)]
theorem uw {deep:Int} {l:aj} {ns:List ab} (h0:0≤deep) (h1:deep+(l.length:Int)≤400) (h:(bl l).head? ≠ some 45) :
  eV deep (ba l) false ns=fF deep (ba (bl l)) false ns:=by
 rw[li,aE (by omega)]
 simp only[ak_,av_,gM]
 rw[show(⟨#[45]⟩:aa_)=ba [45] from rfl,da (by omega)]
 simp only[ab_,io (c:=45) (.inl rfl),ad_]
 simp only[h,decide_false,ak_,av_]
theorem Ef {least deep left:Int} {r:aj} {ns:List ab} (hl:r.length≤400) (h:BJ r=true) (ho:ej r=0∨cE (ej r) < least):cI least deep left (ba r) false ns=some ((left,()),((ba r,ns,false,()),())):=by
 rw[fJ]
 simp only[bm_,ba_]
 obtain⟨o1,o2⟩:=mM (bl r)
 rw[vP (by omega),zA o1 o2 (by rw[UR h]; omega) (fun h=>by rw[dF]; exact rA h),UR h,ae_ ho]
theorem acz {least deep left op:Int} {t:aj} {ns:List ab} (h0:1≤op) (h1:op≤11) (ht:LC t=true) (hl:t.length≤390) (hv:least≤cE op) :
  cI least deep left (ba (dx op++t)) false ns=(bJ (cE op+1) deep (ba t) false ns).bind fun z7=>((aU (5,op,(0,0,(⟨#[]⟩:aa_),()),((0,0,()),false,false,()),((0,0,()),false,false,()),([left,z7.1.1]:(List Int)),()) z7.2.1.1 z7.2.1.2.2.1 z7.2.1.2.1).bind fun z8=>(cI least deep z8.1.1 z8.2.1.1 z8.2.1.2.2.1 z8.2.1.2.1)):=by
 have hs:=UT h0 h1 t
 have hb:=UR hs
 have ho:=W2 h0 h1 ht
 have hln:=zx op
 have hll:(dx op++t).length≤400:=by rw[af_]; omega
 rw[fJ]
 simp only[bm_,ba_]
 obtain⟨o1,o2⟩:=mM (bl (dx op++t))
 rw[vP (by omega),zA o1 o2 (by rw[hb]; omega) (fun h=>by rw[dF]; exact rA h),dF,hb,ho,ac_ (by omega),gc_ rfl]
theorem abW {deep:Int} {m:aj} {ns:List ab} (hl:m.length≤400):fF deep (ba (40 :: m)) false ns=((bJ 1 (IntKind.i64.wrap (deep+1)) (ba m) false ns).bind fun z6=>(if z6.2.1.2.2.1=true then(some ((z6.1.1,()),((z6.2.1.1,z6.2.1.2.1,true,()),()))) else((bE (⟨#[41]⟩:aa_) z6.2.1.1 z6.2.1.2.2.1 z6.2.1.2.1).bind fun z7=>(some ((z6.1.1,()),((z7.2.1.1,z7.2.1.2.1,(!z7.1.1),()),())))))):=by
 have hb:bl (40 :: m)=40 :: m:=bj_ (by decide)
 rw[rC (by rw[aj_]; omega),hb,ac_ (by simp),ac_ (by simp),ae_ (by simp)]
 rfl
theorem Ss {r:aj} {ns:List ab} (hl:r.length≤400):bE (⟨#[41]⟩:aa_) (ba (41 :: r)) false ns=some ((true,()),((ba r,ns,false,()),())):=by
 have hb:bl (41 :: r)=41 :: r:=bj_ (by decide)
 have hs:sg (41 :: r)=[41]:=by rw[io (c:=41) (.inr (.inr (.inl rfl)))]; rfl
 rw[show(⟨#[41]⟩:aa_)=ba [41] from rfl,da (by rw[aj_]; omega),hb,hs]
 rfl
theorem aaJ {r:aj} {ns:List ab} (hl:r.length≤400):bE (⟨#[44]⟩:aa_) (ba (44 :: r)) false ns=some ((true,()),((ba r,ns,false,()),())):=by
 have hb:bl (44 :: r)=44 :: r:=bj_ (by decide)
 have hs:sg (44 :: r)=[44]:=by rw[io (c:=44) (.inr (.inr (.inr (.inl rfl))))]; rfl
 rw[show(⟨#[44]⟩:aa_)=ba [44] from rfl,da (by rw[aj_]; omega),hb,hs]
 rfl
theorem Y4 {r:aj} {ns:List ab} (hl:r.length≤400):bE (⟨#[44]⟩:aa_) (ba (41 :: r)) false ns=some ((false,()),((ba (41 :: r),ns,false,()),())):=by
 have hb:bl (41 :: r)=41 :: r:=bj_ (by decide)
 have hs : ¬sg (41 :: r)=[44]:=by rw[io (c:=44) (.inr (.inr (.inr (.inl rfl))))]; simp
 rw[show(⟨#[44]⟩:aa_)=ba [44] from rfl,da (by rw[aj_]; omega),hb,ac_ hs]
 simp[hs]
theorem UV : ∀(x r:aj),r.head? ≠ some 34→qt (qT x++34 :: r)=some (x,r)
 | [],r,h=>by
  cases r with
  | nil=>exact Ig
  | cons d r =>
   have hd:d≠34:=fun e=>h (by rw[e]; rfl)
   exact D8 hd
 | c :: x,r,h=>by
  unfold qT
  by_cases hc:c=34
  ·subst hc
   rw[ae_ rfl]
   show qt (34 :: 34 :: (qT x++34 :: r))=_
   rw[Ih,UV x r h]
   rfl
  ·rw[ac_ hc]
   show qt (c :: (qT x++34 :: r))=_
   rw[AX hc,UV x r h]
   rfl
theorem W6 {deep:Int} {x r:aj} {ns:List ab} (hl:(qT x).length+r.length≤390) (hr:r.head? ≠ some 34):fF deep (ba (34 :: (qT x++34 :: r))) false ns=aU (nC (2,0,ba x,())) (ba r) false ns:=by
 have hb:bl (34 :: (qT x++34 :: r))=34 :: (qT x++34 :: r):=bj_ (by decide)
 have hll:(qT x++34 :: r).length≤400:=by simp only[af_,aj_]; omega
 rw[rC (by rw[aj_]; omega),hb,ae_ (by simp),AY (by omega),UV x r hr]
 show ca (2,0,ba ([]++x),()) (ba r) false ns=_
 rw[jW]
 rfl
theorem Dx {deep:Int} {w r:aj} {ns:List ab} (hl:w.length+r.length≤390) (hw:w.all bb=true) (hne:w≠[]) (hr:r.takeWhile bb=[]∧r.dropWhile bb=r):fF deep (ba (w++r)) false ns=fe deep w r false ns:=by
 obtain⟨c,t,rfl⟩ : ∃ c t,w=c :: t:=by
  cases w with
  | nil=>exact bh_ rfl hne
  | cons c t=>exact⟨c,t,rfl⟩
 have hc:bb c=true:=by simp only[cb_,ag_] at hw; exact hw.1
 have hn:c≠32∧c≠34∧c≠35∧c≠40∧Dq c=false:=qB (p:=fun c=>bb c=true→c≠32∧c≠34∧c≠35∧c≠40∧Dq c=false) (by decide +kernel) c hc
 have hb:bl (c :: t++r)=c :: t++r:=bj_ (by rw[hn.2.2.2.2]; decide)
 obtain⟨h1,h2⟩:=xe hw hr
 rw[rC (by rw[af_]; omega),hb,h1,h2,ac_ (by simp[hn.2.1]),ac_ (by simp[hn.2.2.1]),ac_ (by simp[hn.2.2.2.1])]
theorem Su (u:Nat):(az_ u).all bb=true:=W3 (D5 (rx u))
theorem Eg {v:ac} (h:az v=true) (h0:v.1≠0) (h1:v.1=1→0≤v.2.1) (h2:v.1≠2):(∃ n:Fin 6,v=vE (n.val:Int)∧1≤n.val)∨((lb (bG v)).all bb=true∧lb (bG v)≠[]∧(v.1=1∨v.1=3)):=by
 rcases sw h with e | ⟨n,e,_⟩ | ⟨t,e⟩ | ⟨b,e⟩ | ⟨n,e,k⟩
 ·rw[e] at h0
  exact bh_ rfl h0
 ·right
  subst e
  have hn:0≤n:=h1 rfl
  obtain⟨u,rfl⟩:=Int.eq_ofNat_of_zero_le hn
  have e:lb (bG (vN ((u:Nat):Int)))=az_ u:=by
   show lb (di ((u:Nat):Int))=_
   rw[mK,dl]
  rw[e]
  exact⟨Su u,zv.1,.inl rfl⟩
 ·rw[e] at h2
  exact bh_ rfl h2
 ·right
  subst e
  cases b
  ·exact⟨by decide +kernel,by decide +kernel,.inr rfl⟩
  ·exact⟨by decide +kernel,by decide +kernel,.inr rfl⟩
 ·exact .inl ⟨n,e,k⟩
theorem Y5 : ∀(n:Fin 6),1≤n.val → ∀ r:aj,qH.find? (gZ (dC (n.val:Int)++r))=some (n.val:Int):=by
 intro n hn r
 have e1:dC 1=[68,73,86,33]∧dC 2=[84,89,80,69,33]∧dC 3=[82,69,70,33]:=by decide +kernel
 have hd : ∀ n m:Fin 6,1≤n.val→1≤m.val→m.val < n.val → ∃ i:Fin 10,(dC (n.val:Int))[i.val]? ≠ (dC (m.val:Int))[i.val]? ∧ i.val < (dC (n.val:Int)).length∧i.val < (dC (m.val:Int)).length:=by decide +kernel
 have no : ∀ m:Fin 6,1≤m.val→m.val < n.val→gZ (dC (n.val:Int)++r) (m.val:Int)=false:=by
  intro m h1 h2
  obtain⟨i,h3,h4,h5⟩:=hd n m hn h1 h2
  rw[cf_]
  intro hp
  unfold gZ at hp
  obtain⟨t,ht⟩:=dt_.1 hp
  have:=an_ (fun l:aj=>l[i.val]?) ht
  simp only[bz_ h5,bz_ h4] at this
  exact h3 this.symm
 have yes:gZ (dC (n.val:Int)++r) (n.val:Int)=true:=by
  unfold gZ
  rw[dt_]
  exact⟨r,rfl⟩
 have hc:n.val=1∨n.val=2∨n.val=3∨n.val=4∨n.val=5:=by omega
 have nm : ∀ m:Nat,(h:m < 6)→1≤m→m < n.val→gZ (dC (n.val:Int)++r) (m:Int)=false:=fun m h h1 h2=>no ⟨m,h⟩ h1 h2
 rcases hc with h | h | h | h | h
 ·rw[h] at nm yes ⊢
  simp only[qH,dn_]
  rw[show gZ (dC ((1:Nat):Int)++r) 1=true from yes]
  rfl
 ·rw[h] at nm yes ⊢
  simp only[qH,dn_]
  rw[show gZ (dC ((2:Nat):Int)++r) 1=false from nm 1 (by decide) (by decide) (by decide),show gZ (dC ((2:Nat):Int)++r) 2=true from yes]
  rfl
 ·rw[h] at nm yes ⊢
  simp only[qH,dn_]
  rw[show gZ (dC ((3:Nat):Int)++r) 1=false from nm 1 (by decide) (by decide) (by decide),show gZ (dC ((3:Nat):Int)++r) 2=false from nm 2 (by decide) (by decide) (by decide),show gZ (dC ((3:Nat):Int)++r) 3=true from yes]
  rfl
 ·rw[h] at nm yes ⊢
  simp only[qH,dn_]
  rw[show gZ (dC ((4:Nat):Int)++r) 1=false from nm 1 (by decide) (by decide) (by decide),show gZ (dC ((4:Nat):Int)++r) 2=false from nm 2 (by decide) (by decide) (by decide),show gZ (dC ((4:Nat):Int)++r) 3=false from nm 3 (by decide) (by decide) (by decide),show gZ (dC ((4:Nat):Int)++r) 4=true from yes]
  rfl
 ·rw[h] at nm yes ⊢
  simp only[qH,dn_]
  rw[show gZ (dC ((5:Nat):Int)++r) 1=false from nm 1 (by decide) (by decide) (by decide),show gZ (dC ((5:Nat):Int)++r) 2=false from nm 2 (by decide) (by decide) (by decide),show gZ (dC ((5:Nat):Int)++r) 3=false from nm 3 (by decide) (by decide) (by decide),
   show gZ (dC ((5:Nat):Int)++r) 4=false from nm 4 (by decide) (by decide) (by decide),show gZ (dC ((5:Nat):Int)++r) 5=true from yes]
  rfl
theorem Y6 {deep:Int} {n:Fin 6} (hn:1≤n.val) {r:aj} {ns:List ab} (hl:r.length≤390):fF deep (ba (lb (cX (n.val:Int))++r)) false ns=aU (nC (vE (n.val:Int))) (ba r) false ns:=by
 have f : ∀ n:Fin 6,1≤n.val→cX (n.val:Int)=ba (35 :: dC (n.val:Int))∧(dC (n.val:Int)).length≤10:=by decide +kernel
 obtain⟨f1,f2⟩:=f n hn
 rw[f1,dl,cs_]
 have hb:bl (35 :: (dC (n.val:Int)++r))=35 :: (dC (n.val:Int)++r):=bj_ (by decide)
 have hll:(dC (n.val:Int)++r).length≤400:=by rw[af_]; omega
 rw[rC (by rw[aj_]; omega),hb,ac_ (by simp),ae_ (by simp),JL (by omega),Y5 n hn r]
 simp only
 rw[jW,gc_ rfl]
theorem Ix {op:Int} (h0:1≤op) (h1:op≤10):(dL op).all bb=true∧dL op≠[]∧(bo (dL op)).2=false∧(cU (dL op)).2=false∧mN.find? (fun k=>decide (dL k=dL op))=some op:=by
 have : ∀ k:Fin 11,1≤k.val→(dL (k.val:Int)).all bb=true∧dL (k.val:Int)≠[]∧(bo (dL (k.val:Int))).2=false∧(cU (dL (k.val:Int))).2=false∧mN.find? (fun j=>decide (dL j=dL (k.val:Int)))=some (k.val:Int):=by decide +kernel
 have h:=this ⟨op.toNat,by omega⟩ (by simp only; omega)
 simpa only[cp_ (show 0≤op by omega)] using h
theorem Eh {op k:Int} (h:kM op k=true):1≤op∧op≤10∧1≤k∧k≤10:=by
 unfold kM at h
 split at h
 ·simp only[cx_,ai_] at h
  omega
 ·split at h
  ·rename_i h1
   have:=bm.1 h1
   have:=bm.1 h
   omega
  ·split at h
   ·rename_i h1
    have:=bm.1 h1
    simp only[ai_] at h
    omega
   ·cases h
section
variable {f:List ab} {n:Nat} {k L:Int}
theorem Ei {v:ac} (h:cq f k=nC v):b7 f (n+1) k L=if v.1=2 then 34 :: (qT (lb v.2.2.1)++[34]) else lb (bG v):=by
 conv=>lhs; unfold b7
 rw[h]
 rfl
theorem A4 {p:bX} (h:cq f k=nP p):b7 f (n+1) k L=fp p:=by
 conv=>lhs; unfold b7
 rw[h]
 rfl
theorem Gg {p q:bX} (h:cq f k=nA p q):b7 f (n+1) k L=fp p++58 :: fp q:=by
 conv=>lhs; unfold b7
 rw[h]
 rfl
theorem Ej {a:Int} (h:cq f k=(4,0,v0,p0,p0,[a],())):b7 f (n+1) k L=45 :: b7 f n a 5:=by
 conv=>lhs; unfold b7
 rw[h]
 rfl
def xf (f:List ab) (n:Nat) (op a b:Int):aj:=b7 f n a (cE op)++(dx op++b7 f n b (cE op+1))
theorem zB {op a b:Int} (h:cq f k=(5,op,v0,p0,p0,[a,b],())):b7 f (n+1) k L=if cE op < L then 40 :: (xf f n op a b++[41]) else xf f n op a b:=by
 conv=>lhs; unfold b7
 rw[h]
 rfl
theorem A5 {op:Int} {ks:List Int} (h:cq f k=(6,op,v0,p0,p0,ks,())):b7 f (n+1) k L=dL op++40 :: (cr (ks.map fun k=>b7 f n k 1)++[41]):=by
 conv=>lhs; unfold b7
 rw[h]
 rfl
end
theorem Iy {w:aj} (hw:w.all bb=true) (hne:w≠[]):LC w=true:=by
 cases w with
 | nil=>exact bh_ rfl hne
 | cons c t =>
  simp only[cb_,ag_] at hw
  show W1 c=true
  unfold W1
  rw[hw.1]
  rfl
theorem MO {p:bX} (h:bM p.1=true):fp p≠[]:=by
 obtain⟨_,c,t,e,_⟩:=oL h
 rw[e]
 simp
theorem s7 {p q:bX} (h:lC (p.1,q.1,())=true):bM p.1=true∧bM q.1=true:=by
 unfold lC at h
 simp only[ag_] at h
 exact⟨h.1.1.1,h.1.1.2⟩
theorem MP {f:List ab} : ∀(n:Nat) (k s:Int) (h:Nat),dR f n k=some (s,h) → ∀ L,LC (b7 f n k L)=true
 | 0,k,s,h,e,L=>by cases e
 | n+1,k,s,h,e,L=>by
  obtain⟨h0,x,hx,hn,hok,hfw⟩:=rK e
  cases Ee hok with
  | con v hv v0' v1 =>
   rw[Ei hn]
   by_cases h2:v.1=2
   ·rw[ae_ h2]
    rfl
   ·rw[ac_ h2]
    rcases Eg hv v0' v1 h2 with⟨m,rfl,hm⟩ | ⟨h3,h4,_⟩
    ·have : ∀ m:Fin 6,1≤m.val→LC (lb (bG (vE (m.val:Int))))=true:=by decide +kernel
     exact this m hm
    ·exact Iy h3 h4
  | cell p hp =>
   rw[A4 hn]
   exact Iy (oL hp).1 (MO hp)
  | area p q hp =>
   rw[Gg hn]
   exact rJ (Iy (oL (s7 hp).1).1 (MO (s7 hp).1)) _
  | neg a =>
   rw[Ej hn]
   rfl
  | bin op a b h1 h2 =>
   rw[zB hn]
   split
   ·rfl
   ·obtain⟨⟨h',hc⟩,_⟩:=hfw
    exact rJ (MP n a s h' hc _) _
  | call op ks ha =>
   rw[A5 hn]
   obtain⟨g1,g2,_⟩:=Eh ha
   obtain⟨f1,f2,_⟩:=Ix g1 g2
   exact rJ (Iy f1 f2) _
theorem acA {m:aj} (h:m.head? ≠ some 32):bl m=m:=by
 cases m with
 | nil=>rfl
 | cons c t =>
  refine bj_ ?_
  unfold Dq
  rw[ai_]
  exact fun e=>h (by rw[e]; rfl)
theorem W7 {f:List ab} : ∀(n:Nat) (k s:Int) (h:Nat),dR f n k=some (s,h)→fK f k=false → ∀ L r,BJ r=true→((b7 f n k L++r).dropWhile bb).head? ≠ some 58∧((b7 f n k L++r).dropWhile bb).head? ≠ some 32
 | 0,k,s,h,e,_,L,r,hr=>by cases e
 | n+1,k,s,h,e,har,L,r,hr=>by
  obtain⟨h0,x,hx,hn,hok,hfw⟩:=rK e
  rw[Dw hn] at har
  have hst:=ZS hr
  cases Ee hok with
  | con v hv v0' v1 =>
   rw[Ei hn]
   by_cases h2:v.1=2
   ·rw[ae_ h2,cs_,bj_ (by decide)]
    exact⟨by simp,by simp⟩
   ·rw[ac_ h2]
    rcases Eg hv v0' v1 h2 with⟨m,rfl,hm⟩ | ⟨h3,h4,_⟩
    ·have : ∀ m:Fin 6,1≤m.val→lb (bG (vE (m.val:Int)))=35 :: dC (m.val:Int):=by decide +kernel
     rw[this m hm,cs_,bj_ (by decide)]
     exact⟨by simp,by simp⟩
    ·rw[(Ge h3 hr).2]
     exact⟨hst.2.1,hst.2.2⟩
  | cell p hp =>
   rw[A4 hn,(Ge (oL hp).1 hr).2]
   exact⟨hst.2.1,hst.2.2⟩
  | area p q hp=>simp at har
  | neg a =>
   rw[Ej hn,cs_,bj_ (by decide)]
   exact⟨by simp,by simp⟩
  | bin op a b h1 h2 =>
   rw[zB hn]
   split
   ·rw[cs_,bj_ (by decide)]
    exact⟨by simp,by simp⟩
   ·obtain⟨⟨h',hc⟩,ha,_⟩:=hfw
    unfold xf
    rw[cn_,cn_]
    refine W7 n a s h' hc ?_ _ _ (UT h1 h2 _)
    rw[cf_]
    intro hh
    have:=ha hh
    simp at this
  | call op ks ha =>
   rw[A5 hn]
   obtain⟨g1,g2,_⟩:=Eh ha
   obtain⟨f1,f2,_⟩:=Ix g1 g2
   rw[cn_,(xe f1 (r:=40 :: (cr (ks.map fun k=>b7 f n k 1)++[41])++r) ⟨rfl,rfl⟩).2]
   exact⟨by simp,by simp⟩
def Gh (x:ab) (L:Int):Bool:=decide (x.1=5) && !decide (cE x.2.1 < L)
def RdU (f:List ab) (n:Nat):Prop := ∀(k s:Int) (h:Nat),dR f n k=some (s,h)→fK f k=false → ∀(L:Int) (r:aj) (deep:Int),1≤L→L≤5→BJ r=true→Gh (cq f k) L=false→0≤deep→deep+((b7 f n k L++r).length:Int)≤380 →
 eV deep (ba (b7 f n k L++r)) false (f.take s.toNat)=some ((k,()),((ba r,f.take (k.toNat+1),false,()),()))
def RdB (f:List ab) (n:Nat):Prop := ∀(k s:Int) (h:Nat),dR f n k=some (s,h)→fK f k=false → ∀(L:Int) (r:aj) (deep least:Int),1≤L→L≤5→BJ r=true→(ej r=0∨cE (ej r)≤L)→1≤least→least≤L→0≤deep→deep+((b7 f n k L++r).length:Int)≤380 →
 bJ least deep (ba (b7 f n k L++r)) false (f.take s.toNat)=cI least deep k (ba r) false (f.take (k.toNat+1))
theorem aaK {op deep:Int} {m:aj} {ns:List ab} (hl:m.length≤390):gB op deep (ba (40 :: m)) false ns=cj op deep (ba m) false [] ns:=by
 have hb:bl (40 :: m)=40 :: m:=bj_ (by decide)
 have hs:sg (40 :: m)=[40]:=by rw[io (c:=40) (.inr (.inl rfl))]; rfl
 rw[qu,ac_ (by decide),show(⟨#[40]⟩:aa_)=ba [40] from rfl,da (by rw[aj_]; omega),hb,hs]
 simp
section
variable {f:List ab} (hf:f.length≤60)
include hf
theorem Sv {n:Nat} (HB:RdB f n) {op deep:Int} (hd0:0≤deep) {r:aj} : ∀(ys pre:List Int) (s0 e:Int),ys≠[]→0≤s0→Iw f n true ys s0 e→pre.length+ys.length≤100→deep+1+((cr (ys.map fun y=>b7 f n y 1)++41 :: r).length:Int)≤380 →
  cj op deep (ba (cr (ys.map fun y=>b7 f n y 1)++41 :: r)) false pre (f.take s0.toNat)=aU (6,op,(0,0,(⟨#[]⟩:aa_),()),((0,0,()),false,false,()),((0,0,()),false,false,()),pre++ys,()) (ba r) false (f.take e.toNat)
 | [],_,_,_,h,_,_,_,_=>bh_ rfl h
 | y :: ys,pre,s0,e,_,hs0,hfw,hpl,hlen=>by
  obtain⟨⟨h',hc⟩,_,hfw'⟩:=hfw
  obtain⟨m,rfl⟩ : ∃ m,n=m+1:=by
   cases n with
   | zero=>cases hc
   | succ m=>exact⟨m,rfl⟩
  obtain⟨hy0,x,hx,hn,hok,hkids⟩:=rK hc
  obtain⟨tl,htl,htx⟩ : ∃ tl:aj,(tl=41 :: r∧ys=[]∨tl=44 :: (cr (ys.map fun y=>b7 f (m+1) y 1)++41 :: r)∧ys≠[])∧cr ((y :: ys).map fun y=>b7 f (m+1) y 1)++41 :: r=b7 f (m+1) y 1++tl:=by
   cases ys with
   | nil=>exact⟨_,.inl ⟨rfl,rfl⟩,rfl⟩
   | cons z zs=>exact⟨_,.inr ⟨rfl,by simp⟩,by simp[cr]⟩
  rw[htx] at hlen ⊢
  have hst:BJ tl=true∧ej tl=0:=by
   rcases htl with⟨h,_⟩ | ⟨h,_⟩
   ·exact MN (.inr (.inl (by rw[h]; rfl)))
   ·exact MN (.inr (.inr (by rw[h]; rfl)))
  have hhd:=rJ (MP (m+1) y s0 h' hc 1) tl
  have hbl:=UU hhd
  have htll:(tl.length:Int)≤380:=by
   rw[af_] at hlen
   omega
  have hrl:(r.length:Int)+1≤380:=by
   rcases htl with⟨h,_⟩ | ⟨h,_⟩
   ·rw[h,aj_] at htll
    omega
   ·rw[h,aj_,af_,aj_] at htll
    omega
  have fC:((bE (⟨#[44]⟩:aa_) (ba tl) false (f.take (y.toNat+1))).bind fun z3=>(if(!z3.1.1)=true then(if z3.2.1.2.2.1=true then((aU (6,op,(0,0,(⟨#[]⟩:aa_),()),((0,0,()),false,false,()),((0,0,()),false,false,()),pre++[y],()) z3.2.1.1 true z3.2.1.2.1).bind fun z4=>(some ((z4.1.1,()),(z4.2.1,())))) else((bE (⟨#[41]⟩:aa_) z3.2.1.1 z3.2.1.2.2.1 z3.2.1.2.1).bind fun z5=>((aU (6,op,(0,0,(⟨#[]⟩:aa_),()),((0,0,()),false,false,()),((0,0,()),false,false,()),pre++[y],()) z5.2.1.1 (!z5.1.1) z5.2.1.2.1).bind fun z6=>(some ((z6.1.1,()),(z6.2.1,())))))) else(cj op deep z3.2.1.1 z3.2.1.2.2.1 (pre++[y]) z3.2.1.2.1)))
    = aU (6,op,(0,0,(⟨#[]⟩:aa_),()),((0,0,()),false,false,()),((0,0,()),false,false,()),pre++y :: ys,()) (ba r) false (f.take e.toNat):=by
   rcases htl with⟨h,h2⟩ | ⟨h,h2⟩
   ·subst h2
    have he:y+1=e:=hfw'
    rw[h,Y4 (by omega)]
    simp only[ab_,bm_,ba_,ak_,av_]
    rw[Ss (by omega)]
    simp only[ab_,bc_,gM]
    congr 2
    omega
   ·have ih:=Sv HB (op:=op) hd0 (r:=r) ys (pre++[y]) (y+1) e h2 (by omega) hfw' (by simp only[af_,aj_,bl_] at hpl ⊢; omega) (by
     rw[af_,h,aj_] at hlen
     omega)
    have hcl:((cr (ys.map fun y=>b7 f (m+1) y 1)++41 :: r).length:Int)≤380:=by
     rw[h,aj_] at htll
     omega
    rw[h,aaJ (by omega)]
    simp only[ab_,bc_,ak_,av_]
    have e1:(y+1).toNat=y.toNat+1:=by omega
    rw[e1] at ih
    rw[ih]
    simp
  rw[jo]
  simp only[bm_,ba_]
  rw[Gd (by omega),hbl]
  by_cases har:fK f y=true
  ·
   rw[Dw hn,ai_] at har
   cases Ee hok with
   | con v _ _ _=>simp at har
   | cell p _=>simp at har
   | neg a=>simp at har
   | bin op a b _ _=>simp at har
   | call op ks _=>simp at har
   | area p q hp =>
    obtain⟨r1,r2⟩:=s7 hp
    have hs:s0=y:=hkids
    rw[Gg hn,cn_,cs_]
    obtain⟨w1,w2⟩:=xe (oL r1).1 (r:=58 :: (fp q++tl)) ⟨rfl,rfl⟩
    obtain⟨w3,w4⟩:=Ge (oL r2).1 hst.1
    have hb2:bl (58 :: (fp q++tl))=58 :: (fp q++tl):=bj_ (by decide)
    have har:kq (fp p++58 :: (fp q++tl))=fp q++tl:=by
     unfold kq
     rw[w2,hb2]
     exact UU (rJ (Iy (oL r2).1 (MO r2)) tl)
    have hab:BH (fp p++58 :: (fp q++tl))=true:=by
     unfold BH
     rw[w1,w2,pG r1,hb2]
     rfl
    rw[ae_ hab,har,w1,w3,w4,pG r1,pG r2]
    simp only[ab_,ba_,bc_,Bool.or_false]
    rw[hs,Dv hf hx]
    simp only[ab_]
    rw[bi (by simp only[ad_]; simp only[aj_] at hpl; omega),cp_ hy0]
    exact fC
  ·
   have har':fK f y=false:=by simpa using har
   obtain⟨c1,c2⟩:=W7 (m+1) y s0 h' hc har' 1 tl hst.1
   have hab : ¬BH (b7 f (m+1) y 1++tl)=true:=by
    unfold BH
    rw[acA c2]
    simp[c1]
   rw[ac_ hab]
   simp only[ab_,ak_,av_]
   rw[wr (by omega) (by omega),HB y s0 h' hc har' 1 tl (deep+1) 1 (by decide) (by decide) hst.1 (.inl hst.2) (by decide) (by decide) (by omega) (by omega),Ef (by omega) hst.1 (.inl hst.2)]
   simp only[ab_]
   rw[bi (by simp only[ad_]; simp only[aj_] at hpl; omega)]
   exact fC
theorem Sw {n:Nat} (HB:RdB f n) {k s op a b:Int} (hk0:0≤k) (hx:f[k.toNat]? = some (5,op,v0,p0,p0,[a,b],())) (h1:1≤op) (h2:op≤11) (hfw:Iw f n false [a,b] s k) {r:aj} {deep least:Int} (hr:BJ r=true) (ho:ej r=0∨cE (ej r)≤cE op) (hl1:1≤least) (hl2:least≤cE op) (hd0:0≤deep) (hd:deep+((xf f n op a b++r).length:Int)≤380) :
  bJ least deep (ba (xf f n op a b++r)) false (f.take s.toNat)=cI least deep k (ba r) false (f.take (k.toNat+1)):=by
 obtain⟨⟨ha,hca⟩,haa,⟨hb,hcb⟩,hab,hbk⟩:=hfw
 have hbk:b+1=k:=hbk
 have naa:fK f a=false:=by
  rw[cf_]
  intro h
  have:=haa h
  cases this
 have nab:fK f b=false:=by
  rw[cf_]
  intro h
  have:=hab h
  cases this
 obtain⟨v1,v2⟩:=Gf op
 have hhd:=MP n b (a+1) hb hcb (cE op+1)
 have hhd2:=rJ hhd r
 unfold xf at hd ⊢
 rw[cn_,cn_] at hd ⊢
 have ha0:0≤a:=by
  have:=fQ f n a s ha hca
  omega
 have hb0:0≤b:=by
  have:=fQ f n b (a+1) hb hcb
  omega
 rw[af_,af_] at hd
 rw[HB a s ha hca naa (cE op) _ deep least v1 (by omega) (UT h1 h2 _) (.inr (by rw[W2 h1 h2 hhd2]; omega)) hl1 hl2 hd0 (by rw[af_,af_]; omega),acz h1 h2 hhd2 (by omega) hl2]
 have ea:(a+1).toNat=a.toNat+1:=by omega
 have:=HB b (a+1) hb hcb nab (cE op+1) r deep (cE op+1) (by omega) (by omega) hr (ho.imp id fun h=>by omega) (by omega) (by omega) hd0 (by omega)
 rw[ea] at this
 rw[this,Ef (by rw[af_] at hd; omega) hr (ho.imp id fun h=>by omega)]
 simp only[ab_]
 have eb:b.toNat+1=k.toNat:=by omega
 have hp:aU (5,op,(0,0,(⟨#[]⟩:aa_),()),((0,0,()),false,false,()),((0,0,()),false,false,()),[a,b],()) (ba r) false (f.take k.toNat)=_:=Dv hf hx r
 rw[eb,hp]
 simp only[ab_]
 rw[cp_ hk0]
theorem W8 : ∀ n:Nat,RdU f n∧RdB f n
 | 0=>⟨(fun k s h e=>by cases e),(fun k s h e=>by cases e)⟩
 | n+1=>by
  obtain⟨IU,IB⟩:=W8 n
  have U:RdU f (n+1):=by
   intro k s h e har L r deep hL1 hL2 hr hbin hd0 hd
   obtain⟨hk0,x,hx,hn,hok,hfw⟩:=rK e
   have hhd:=rJ (MP (n+1) k s h e L) r
   have hbl:=UU hhd
   rw[Dw hn] at har
   rw[hn] at hbin
   have fC:s=k→aU x (ba r) false (f.take s.toNat)=some ((k,()),((ba r,f.take (k.toNat+1),false,()),())):=by
    rintro rfl
    rw[Dv hf hx,cp_ hk0]
   cases Ee hok with
   | con v hv v0' v1 =>
    have hs:s=k:=hfw
    rw[Ei hn] at hd hbl ⊢
    by_cases h2:v.1=2
    ·rw[ae_ h2] at hd hbl ⊢
     have hve:v=(2,0,ba (lb v.2.2.1),()):=by
      rw[dM]
      exact eq_ h2 (eq_ (Si hv h2) rfl)
     rw[cs_,cn_,List.singleton_append] at hd hbl ⊢
     simp only[aj_,af_] at hd
     rw[uw hd0 (by simp only[aj_,af_]; omega) (by rw[hbl]; simp),hbl,W6 (by omega) (ZS hr).1,←hve]
     exact fC hs
    ·rw[ac_ h2] at hd hbl ⊢
     rw[af_] at hd
     rcases Eg hv v0' v1 h2 with⟨m,rfl,hm⟩ | ⟨h3,h4,h5⟩
     ·have e1:bG (vE (m.val:Int))=cX (m.val:Int):=rfl
      rw[e1] at hd hbl ⊢
      have h45:(lb (cX (m.val:Int))++r).head? ≠ some 45:=by
       have : ∀ m:Fin 6,1≤m.val→lb (cX (m.val:Int))=35 :: dC (m.val:Int):=by decide +kernel
       rw[this m hm]
       simp
      rw[uw hd0 (by rw[af_]; omega) (by rw[hbl]; exact h45),hbl,Y6 hm (by omega)]
      exact fC hs
     ·have h45:(lb (bG v)++r).head? ≠ some 45:=by
       cases hw:lb (bG v) with
       | nil=>exact bh_ hw h4
       | cons c t =>
        rw[hw] at h3
        simp only[cb_,ag_] at h3
        have:bb c=true→c≠45:=qB (p:=fun c=>bb c=true→c≠45) (by decide +kernel) c
        simpa using this h3.1
      rw[uw hd0 (by rw[af_]; omega) (by rw[hbl]; exact h45),hbl,Dx (by omega) h3 h4 (US hr)]
      unfold fe
      rw[qG hv,ae_ ⟨rfl,h5⟩,jW]
      exact fC hs
   | cell p hp =>
    have hs:s=k:=hfw
    rw[A4 hn] at hd hbl ⊢
    rw[af_] at hd
    obtain⟨w1,c,t,ec,hc⟩:=oL hp
    have h45:(fp p++r).head? ≠ some 45:=by
     rw[ec]
     simpa using (ZT c hc).2.2.1
    rw[uw hd0 (by rw[af_]; omega) (by rw[hbl]; exact h45),hbl,Dx (by omega) w1 (MO hp) (US hr)]
    unfold fe
    rw[ac_ (by rw[Y3 hp]; exact fun h=>by cases h.1),pG hp,ae_ rfl]
    exact fC hs
   | area p q hp=>simp at har
   | neg a =>
    obtain⟨⟨ha,hca⟩,haa,hak⟩:=hfw
    have hak:a+1=k:=hak
    have naa:fK f a=false:=by
     rw[cf_]
     intro h
     have:=haa h
     simp at this
    have ha0:0≤a:=by
     have:=fQ f n a s ha hca
     omega
    rw[Ej hn] at hd hbl ⊢
    rw[cs_] at hd hbl ⊢
    rw[aj_] at hd
    have nb:Gh (cq f a) 5=false:=by
     unfold Gh
     have:=Gf (cq f a).2.1
     rw[bb_ (show cE (cq f a).2.1 < 5 by omega)]
     simp
    rw[abV hd0 (by rw[aj_]; omega) (by rw[hbl]; rfl),hbl]
    simp only[bu_,cu_]
    rw[IU a s ha hca naa 5 r (deep+1) (by decide) (by decide) hr nb (by omega) (by omega)]
    simp only[ab_]
    have ea:a.toNat+1=k.toNat:=by omega
    rw[ea]
    refine(Dv hf hx r).trans ?_
    rw[cp_ hk0]
   | bin op a b h1 h2 =>
    have hlt:cE op < L:=by
     unfold Gh at hbin
     simpa using hbin
    rw[zB hn,ae_ hlt] at hd hbl ⊢
    rw[cs_,cn_,List.singleton_append] at hd hbl ⊢
    rw[aj_] at hd
    have hll:=hd
    rw[af_,aj_] at hll
    obtain⟨v1,v2⟩:=Gf op
    have h41:=MN (r:=41 :: r) (.inr (.inl rfl))
    rw[uw hd0 (by rw[aj_]; omega) (by rw[hbl]; simp),hbl,abW (by omega),wr (by omega) (by omega),Sw hf IB hk0 hx h1 h2 hfw h41.1 (.inl h41.2) (by decide) v1 (by omega) (by omega),Ef (by rw[aj_]; omega) h41.1 (.inl h41.2)]
    simp only[ab_,ak_,av_]
    rw[Ss (by omega)]
    rfl
   | call op ks ha =>
    obtain⟨g1,g2,g3,g4⟩:=Eh ha
    obtain⟨f1,f2,f3,f4,f5⟩:=Ix g1 g2
    rw[A5 hn] at hd hbl ⊢
    rw[cn_,cs_,cn_,List.singleton_append] at hd hbl ⊢
    have h45:(dL op++40 :: (cr (ks.map fun k=>b7 f n k 1)++41 :: r)).head? ≠ some 45:=by
     cases hw:dL op with
     | nil=>exact bh_ hw f2
     | cons c t =>
      rw[hw] at f1
      simp only[cb_,ag_] at f1
      have:bb c=true→c≠45:=qB (p:=fun c=>bb c=true→c≠45) (by decide +kernel) c
      simpa using this f1.1
    have hll:=hd
    rw[af_,aj_] at hll
    have hfl:1≤(dL op).length:=List.length_pos_iff.2 f2
    rw[uw hd0 (by omega) (by rw[hbl]; exact h45),hbl,Dx (by rw[aj_]; omega) f1 f2 ⟨rfl,rfl⟩]
    unfold fe
    rw[ac_ (by rw[f3]; exact fun h=>by cases h.1),ac_ (by rw[f4]; decide),f5]
    simp only
    have hs0:0≤s:=(fQ f (n+1) k s h e).1
    have hkn:ks≠[]:=by
     rintro rfl
     simp at g3
    have hfw':Iw f n true ks s k:=by
     have:decide (((6,op,v0,p0,p0,ks,()):ab).1=6)=true:=rfl
     rw[this] at hfw
     exact hfw
    rw[aaK (by omega),Sv hf IB hd0 ks [] s k hkn hs0 hfw' (by simp only[bl_]; omega) (by omega),List.nil_append]
    refine(Dv hf hx r).trans ?_
    rw[cp_ hk0]
  refine⟨U,?_⟩
  intro k s h e har L r deep least hL1 hL2 hr ho hl1 hl2 hd0 hd
  by_cases hb:Gh (cq f k) L=true
  ·obtain⟨hk0,x,hx,hn,hok,hfw⟩:=rK e
   rw[hn] at hb
   unfold Gh at hb
   rw[ag_,ai_,dr_,decide_eq_false_iff_not] at hb
   cases Ee hok with
   | con v _ _ _=>simp at hb
   | cell p _=>simp at hb
   | area p q _=>simp at hb
   | neg a=>simp at hb
   | call op ks _=>simp at hb
   | bin op a b h1 h2 =>
    have hge : ¬cE op < L:=hb.2
    rw[zB hn,ac_ hge] at hd ⊢
    exact Sw hf IB hk0 hx h1 h2 hfw hr (ho.imp id fun h=>by omega) hl1 (by omega) hd0 hd
  ·have hb':Gh (cq f k) L=false:=by simpa using hb
   rw[nR,U k s h e har L r deep hL1 hL2 hr hb' hd0 hd]
   rfl
end
def kt (c:UInt8):Bool:=decide (32≤c.toNat) && decide (c.toNat≤126)
theorem vS {l:aj}:plain (ba l)=l.all kt:=by
 unfold plain
 rw[Ws,List.all_map]
 congr 1
 funext c
 simp only[Function.comp,sV,kt]
 rw[bw_]
 simp only[ai_,ag_]
 omega
theorem Ek {w:aj} (h:w.all bb=true):w.all kt=true:=by
 rw[cl_] at h ⊢
 intro c hc
 exact qB (p:=fun c=>bb c=true→kt c=true) (by decide +kernel) c (h c hc)
theorem UW : ∀ {l:aj},l.all kt=true→(qT l).all kt=true
 | [],_=>rfl
 | c :: l,h=>by
  simp only[cb_,ag_] at h
  unfold qT
  split
  ·simp only[cb_,UW h.2,er_]
   decide
  ·simp only[cb_,h.1,UW h.2,er_]
theorem LD : ∀ {l:List aj},(∀ x∈l,x.all kt=true)→(cr l).all kt=true
 | [],_=>rfl
 | [x],h=>h x (by simp)
 | x :: y :: l,h=>by
  have ih:=LD (l:=y :: l) fun z hz=>h z (List.mem_cons_of_mem _ hz)
  show(x++44 :: cr (y :: l)).all kt=true
  rw[cr_,cb_,h x (by simp),ih]
  decide
theorem abY {op:Int} (h0:1≤op) (h1:op≤11):(dx op).all kt=true:=by
 have : ∀ k:Fin 12,(dx (k.val:Int)).all kt=true:=by decide +kernel
 have h:=this ⟨op.toNat,by omega⟩
 simpa only[cp_ (show 0≤op by omega)] using h
theorem zC {f:List ab} {n:Nat} {call:Bool} : ∀ {l:List Int} {s e:Int},Iw f n call l s e → ∀ y∈l,∃ s h,dR f n y=some (s,h)
 | [],_,_,_,y,hy=>by cases hy
 | z :: l,s,e,h,y,hy=>by
  rcases List.mem_cons.1 hy with rfl | hy
  ·obtain⟨h',hc⟩:=h.1
   exact⟨s,h',hc⟩
  ·exact zC h.2.2 y hy
theorem El {f:List ab} : ∀(n:Nat) (k s:Int) (h:Nat),dR f n k=some (s,h) → ∀ L,(b7 f n k L).all kt=true
 | 0,k,s,h,e,L=>by cases e
 | n+1,k,s,h,e,L=>by
  obtain⟨h0,x,hx,hn,hok,hfw⟩:=rK e
  cases Ee hok with
  | con v hv v0' v1 =>
   rw[Ei hn]
   by_cases h2:v.1=2
   ·rw[ae_ h2,cb_,cr_,UW]
    ·decide
    ·have hp:plain v.2.2.1=true:=by
      unfold az at hv
      rw[ae_ h2] at hv
      simp only[ag_] at hv
      exact hv.2.1
     rw[←dM v.2.2.1,vS] at hp
     exact hp
   ·rw[ac_ h2]
    rcases Eg hv v0' v1 h2 with⟨m,rfl,hm⟩ | ⟨h3,h4,_⟩
    ·have : ∀ m:Fin 6,1≤m.val→(lb (bG (vE (m.val:Int)))).all kt=true:=by decide +kernel
     exact this m hm
    ·exact Ek h3
  | cell p hp =>
   rw[A4 hn]
   exact Ek (oL hp).1
  | area p q hp =>
   rw[Gg hn,cr_,cb_,Ek (oL (s7 hp).1).1,Ek (oL (s7 hp).2).1]
   decide
  | neg a =>
   obtain⟨s',h',hc⟩:=zC hfw a (by simp)
   rw[Ej hn,cb_,El n a s' h' hc]
   decide
  | bin op a b h1 h2 =>
   obtain⟨s1,h1',c1⟩:=zC hfw a (by simp)
   obtain⟨s2,h2',c2⟩:=zC hfw b (by simp)
   have hb:(xf f n op a b).all kt=true:=by
    unfold xf
    rw[cr_,cr_,El n a s1 h1' c1,El n b s2 h2' c2,abY h1 h2]
    rfl
   rw[zB hn]
   split
   ·rw[cb_,cr_,hb]
    decide
   ·exact hb
  | call op ks ha =>
   obtain⟨g1,g2,_⟩:=Eh ha
   obtain⟨f1,_⟩:=Ix g1 g2
   rw[A5 hn,cr_,cb_,cr_,Ek f1,LD]
   ·decide
   ·intro z hz
    obtain⟨y,hy,rfl⟩:=List.mem_map.1 hz
    obtain⟨s',h',hc⟩:=zC hfw y hy
    exact El n y s' h' hc 1
def fT (f:List ab):aj:=b7 f f.length ((f.length:Int) - 1) 1
theorem Sx {f:List ab} (h:ef f=true):f.length≤60∧1≤f.length∧fK f ((f.length:Int) - 1)=false ∧ ∃ d,dR f f.length ((f.length:Int) - 1)=some (0,d):=by
 unfold ef sX at h
 rw[ag_] at h
 obtain⟨h1,h2⟩:=h
 have h1:=bm.1 h1
 split at h2
 ·rename_i s d hc
  simp only[ag_,ai_,dr_] at h2
  rw[h2.1] at hc
  exact⟨by omega,by omega,h2.2.1,d,hc⟩
 ·cases h2
theorem W9 {f:List ab} (h:ef f=true) (hl:(fT f).length≤200):i8 (ba (fT f))=some ((f,true,()),()):=by
 obtain⟨h60,h1,har,d,hc⟩:=Sx h
 have hp:plain (ba (fT f))=true:=by
  rw[vS]
  exact El _ _ _ _ hc 1
 have hst:=MN (r:=[]) (.inl rfl)
 have hB:=(W8 h60 f.length).2 _ 0 d hc har 1 [] 0 1 (by decide) (by decide) hst.1 (.inl hst.2) (by decide) (by decide) (by decide) (by rw[bv_]; show(0:Int)+((fT f).length:Int)≤380; omega)
 rw[bv_] at hB
 have hB:bJ 1 0 (ba (fT f)) false []=_:=hB
 rw[Ef (by simp) hst.1 (.inl hst.2)] at hB
 have ek:((f.length:Int) - 1).toNat+1=f.length:=by omega
 rw[ek,List.take_length] at hB
 have hs:=jT h
 have hn : ∀ x∈f,dj x=true:=by
  intro x hx
  obtain⟨i,hi⟩:=gv_ hx
  exact(hs i x hi).1
 have hsm:sm f=true:=by
  unfold sm
  rw[cl_]
  exact fun x hx=>Lx (hn x hx)
 rw[wD,t6 (by rw[aK]; omega),hp]
 have h200:decide (((ba (fT f)).size:Int)≤200)=true:=bb_ (by rw[aK]; omega)
 rw[h200]
 simp only[ab_,Bool.and_self,bc_,ak_,av_]
 rw[hB]
 simp only[ab_]
 rw[nD]
 simp only[ab_,ak_,av_]
 have e0:(ah_ (ba (bl [])) == ah_ (⟨#[]⟩:aa_))=true:=by
  rw[show(⟨#[]⟩:aa_)=ba [] from rfl,dK]
  rfl
 rw[e0]
 simp only[bc_,ak_,av_]
 rw[lE (by omega) (JN hsm) (JO hsm),h]
 rfl
noncomputable def ft (x:aa_):List ab×Bool:=if h:x.size≤9223372036854775807 then((MM h).choose,(MM h).choose_spec.choose) else([],false)
theorem ot {x:aa_} (h:x.size≤9223372036854775807):kE x=some (((ft x).1,(ft x).2,()),())∧i8 x=some (((ft x).1,(ft x).2,()),())∧((ft x).2=true→ef (ft x).1=true)∧((ft x).2=false→(ft x).1=[]):=by
 unfold ft
 rw[dif_pos h]
 exact(MM h).choose_spec.choose_spec
theorem Y7 {f:List ab} (h:ef f=true) (hl:(fT f).length≤200):ft (ba (fT f))=(f,true):=by
 have h1:=(ot (x:=ba (fT f)) (by rw[aK]; omega)).2.1
 rw[W9 h hl] at h1
 have:=ch_ h1
 have e1:(ft (ba (fT f))).1=f:=(an_ (fun z=>z.1.1) this).symm
 have e2:(ft (ba (fT f))).2=true:=(an_ (fun z=>z.1.2.1) this).symm
 exact eq_ e1 e2
def g5 (f:List ab):aj:=if ef f=true∧(fT f).length≤200 then fT f else []
theorem s8 {f:List ab} (h:ef f=true):f.length≤60∧(∀ x∈f,x.2.2.1.2.2.1.size≤9223372036854775807) ∧ ∀ x∈f,x.2.2.2.2.2.1.length≤10000000:=by
 have hs:dN f=true:=by
  unfold dN
  rw[cl_]
  intro y hy
  obtain⟨i,hi⟩:=gv_ hy
  exact(jT h i y hi).1
 have ho':=h
 unfold ef at ho'
 rw[ag_] at ho'
 have:=bm.1 ho'.1
 exact⟨by omega,JN (vR hs),JO (vR hs)⟩
theorem Y8 {f:List ab} (hl:f.length≤10000000) (hs : ∀ x∈f,x.2.2.1.2.2.1.size≤9223372036854775807) (hk : ∀ x∈f,x.2.2.2.2.2.1.length≤10000000):qk f=some ((ba (g5 f),()),())∧qh f=some ((ba (g5 f),()),()):=by
 rw[wE,wC,lE hl hs hk,lF hl hs hk]
 simp only[ab_]
 unfold g5
 cases ho:ef f with
 | false=>exact⟨rfl,rfl⟩
 | true =>
  simp only[bc_,ak_,av_]
  have ho':=ho
  unfold ef at ho'
  rw[ag_] at ho'
  have hlen:=bm.1 ho'.1
  have ht:=ho'.2
  unfold sX at ht
  cases hc:dR f f.length ((f.length:Int) - 1) with
  | none=>rw[hc] at ht; cases ht
  | some p =>
   obtain⟨h1,h2⟩:=JP (by omega) f.length ((f.length:Int) - 1) p.1 p.2 hc
   rw[wr (by omega) (by omega),(h1 1).1,(h1 0).2,Io]
   simp only[ab_,aK]
   by_cases hb:(fT f).length≤200
   ·have hb':(b7 f f.length ((f.length:Int) - 1) 1).length≤200:=hb
    rw[aE (by omega),ae_ (by simp[hb])]
    exact⟨rfl,rfl⟩
   ·have hb' : ¬(b7 f f.length ((f.length:Int) - 1) 1).length≤200:=hb
    rw[aJ (by omega),ac_ (fun h=>hb h.2)]
    exact⟨rfl,rfl⟩
theorem Xa (f:List ab):(g5 f).length≤200:=by
 unfold g5
 split
 ·rename_i h
  exact h.2
 ·exact Nat.zero_le _
noncomputable def fy (w:aj):aj×Bool :=
 if w=[] then([],true)
 else if(w.all kt && decide (w.length≤200))=false then([],false)
 else if w.head? = some 61 then(let r:=ft (ba (w.drop 1)); if r.2=true∧g5 r.1≠[]∧(g5 r.1).length < 200 then(61 :: g5 r.1,true) else([],false))
 else if fw w=true then(lb (di (lp w)),true)
 else if(bo w).2=true then(w,true)
 else if w.length=200 then([],false) else(39 :: w,true)
theorem ac1 {w:aj} (hx:w.length≤9223372036854775807):d7 (ba w)=some ((ba (fy w).1,(fy w).2,()),()):=by
 rw[xF,om (by rw[aK]; exact hx)]
 simp only[ab_]
 have e0 : ∀ x:aj,(ah_ (ba x) == ah_ (⟨#[]⟩:aa_))=decide (x=[]):=fun x=>dK (b:=[])
 have e1:(plain (ba w) && decide (((ba w).size:Int)≤200))=(w.all kt && decide (w.length≤200)):=by
  rw[vS,aK]
  congr 1
  rw[bw_,ai_,ai_]
  omega
 rw[e0,e1]
 unfold fy
 by_cases hw:w=[]
 ·subst hw
  rfl
 ·rw[ac_ hw,bf_ hw]
  cases hp:(w.all kt && decide (w.length≤200)) with
  | false=>rfl
  | true =>
   rw[ac_ (by decide)]
   have hp':=hp
   rw[ag_,ai_] at hp'
   have hl:=hp'.2
   simp only[bc_,ak_,av_]
   cases w with
   | nil=>exact bh_ rfl hw
   | cons c l =>
    rw[qA,F6 c 61 (n:=61) rfl]
    by_cases hc:c=61
    ·subst hc
     have hll:l.length≤200:=by rw[aj_] at hl; omega
     simp only[dg_,ck_,ba_,bu_,cu_]
     rw[show(1:Int)=((1:Nat):Int) from rfl,ge (by simp)]
     simp only[bu_,cu_]
     obtain⟨r1,_,r3,r4⟩:=ot (x:=ba l) (by rw[aK]; omega)
     rw[r1]
     simp only[ab_]
     have hsm:(ft (ba l)).1.length≤10000000∧(∀ x∈(ft (ba l)).1,x.2.2.1.2.2.1.size≤9223372036854775807) ∧ ∀ x∈(ft (ba l)).1,x.2.2.2.2.2.1.length≤10000000:=by
      cases hb:(ft (ba l)).2 with
      | false=>rw[r4 hb]; simp
      | true =>
       have:=s8 (r3 hb)
       exact⟨by omega,this.2⟩
     have hfl:=Xa (ft (ba l)).1
     rw[(Y8 hsm.1 hsm.2.1 hsm.2.2).2]
     simp only[ab_]
     rw[e0,aK,show(⟨#[61]⟩:aa_)=ba [61] from rfl,bT (by simp only[ad_]; omega),wr (by omega) (by omega)]
     cases hb:(ft (ba l)).2 with
     | false=>simp
     | true =>
      by_cases h1:g5 (ft (ba l)).1=[]
      ·simp[h1]
      ·by_cases h2:(g5 (ft (ba l)).1).length < 200
       ·rw[aE h1,aE (by omega)]
        simp[h1,h2]
       ·rw[aE h1,aJ (by omega)]
        simp[h1,h2]
    ·have hnc : ¬(c :: l).head? = some (61:UInt8):=by simpa using hc
     rw[ac_ hnc]
     simp only[hc,decide_false,ak_,av_]
     generalize hwd:(c :: l:aj)=w at *
     have hsz:(ba w).size=w.length:=aK w
     obtain⟨v,n1,n2⟩:=Dt hw (by omega)
     rw[n1,oJ (by omega)]
     simp only[ab_]
     cases ho:fw w with
     | true =>
      have hrg:=A2 ho
      have hok:az (vN (lp w))=true:=by
       rw[Y1]
       exact bm.2 hrg
      rw[n2 ho]
      simp only[ba_]
      rw[eY (cg hok),ae_ hok]
      simp only[ab_,dM]
      rfl
     | false =>
      simp only[ak_,av_]
      cases hr:(bo w).2 with
      | true =>
       obtain⟨k1,k2⟩:=pd hr
       simp only[bc_,ak_,av_]
       rw[eY (cg k1),ae_ k1,k2]
       simp only[ab_]
       rw[aE (by rw[hsz]; omega)]
       rfl
      | false =>
       simp only[bm_,ak_,av_,ba_]
       have hov:az (2,0,ba w,())=true:=by
        unfold az
        rw[ae_ rfl]
        simp only[ck_,bt_]
        rw[e1]
        exact hp
       have htx:bG (2,0,ba w,())=ba (39 :: w):=by
        show(⟨#[39]⟩:aa_)++ba w=_
        rw[show(⟨#[39]⟩:aa_)=ba [39] from rfl,kN]
        rfl
       rw[eY (cg hov),ae_ hov,htx]
       simp only[ab_,aK,aj_]
       by_cases h2:w.length=200
       ·rw[aJ (by omega),ae_ h2]
        rfl
       ·rw[aE (by omega),ac_ h2]
        rfl
theorem ux {w:aj} (hx:w.length≤9223372036854775807):dk (ba w)=(ba (fy w).1,(fy w).2):=by
 have h:=(kO (x:=ba w) (by rw[aK]; exact hx)).2.1
 rw[ac1 hx] at h
 have:=ch_ h
 exact eq_ (an_ (fun z=>z.1.1) this).symm (an_ (fun z=>z.1.2.1) this).symm
theorem Gi {n:Int} (h0 : -1000000000000000≤n) (h1:n≤1000000000000000):fw (lb (di n))=true∧lp (lb (di n))=n∧(lb (di n)).all kt=true∧(lb (di n)).head? ≠ some 61∧(lb (di n)).length≤20∧lb (di n)≠[]:=by
 have hsz:=qy (n:=n) (by omega) (by omega)
 have hd : ∀ u:Nat,u≤1000000000000000→(az_ u).all dw=true∧bS 0 (az_ u)=u∧az_ u≠[]∧(az_ u).head? ≠ some 45∧(az_ u).head? ≠ some 61∧(az_ u).all kt=true:=by
  intro u hu
  have ha:=D5 (rx u)
  refine⟨ha,ru u,zv.1,zv.2.2.2.1,?_,Ek (Su u)⟩
  intro h
  cases hdd:az_ u with
  | nil=>rw[hdd] at h; cases h
  | cons c t =>
   rw[hdd] at h ha
   simp only[dg_,bd_] at h
   subst h
   simp[dw] at ha
 by_cases hn:n < 0
 ·obtain⟨d1,d2,d3,d4,d5,d6⟩:=hd (-n).toNat (by omega)
  have e:lb (di n)=45 :: az_ (-n).toNat:=by rw[w9 hn,dl]
  rw[←iR,e] at hsz
  rw[e]
  have hm:iH (45 :: az_ (-n).toNat)=az_ (-n).toNat:=rfl
  have hg:PE (45 :: az_ (-n).toNat)=true:=rfl
  refine⟨?_,?_,?_,by simp,hsz,by simp⟩
  ·unfold fw js
   rw[hm,d1,d2,bb_ d3,bb_ (by omega)]
   rfl
  ·unfold lp rI
   rw[hm,hg,d2,ae_ rfl]
   omega
  ·rw[cb_,d6]
   rfl
 ·obtain⟨d1,d2,d3,d4,d5,d6⟩:=hd n.toNat (by omega)
  have e:lb (di n)=az_ n.toNat:=by
   rw[show di n=di (n.toNat:Int) by rw[show(n.toNat:Int)=n by omega],mK,dl]
  rw[←iR,e] at hsz
  rw[e]
  have hm:iH (az_ n.toNat)=az_ n.toNat:=ac_ d4
  have hg:PE (az_ n.toNat)=false:=bf_ d4
  refine⟨?_,?_,d6,d5,hsz,d3⟩
  ·unfold fw js
   rw[hm,d1,d2,bb_ d3,bb_ (by omega)]
   rfl
  ·unfold lp rI
   rw[hm,hg,d2,ac_ (by decide)]
   omega
theorem PI {f:List ab} (h:ef f=true) (hl:(fT f).length < 200) (hne:fT f≠[]):fy (61 :: fT f)=(61 :: fT f,true):=by
 obtain⟨h60,h1,har,d,hc⟩:=Sx h
 have hp:(61 :: fT f).all kt=true:=by
  rw[cb_]
  exact(ag_ _ _).mpr ⟨by decide,El _ _ _ _ hc 1⟩
 have ht:g5 f=fT f:=ae_ ⟨h,by omega⟩
 unfold fy
 rw[ac_ (by simp),hp,bb_ (by rw[aj_]; omega),ac_ (by decide),ae_ (by rfl)]
 simp only[bu_,cu_]
 rw[Y7 h (by omega)]
 simp only[ht]
 rw[ae_ (by simp[hne,hl])]
theorem uy {w:aj} (hw:w≠[]) (hp:(w.all kt && decide (w.length≤200))=true):fy w=if w.head? = some 61 then(let r:=ft (ba (w.drop 1)); if r.2=true∧g5 r.1≠[]∧(g5 r.1).length < 200 then(61 :: g5 r.1,true) else([],false)) else if fw w=true then(lb (di (lp w)),true) else if(bo w).2=true then(w,true) else if w.length=200 then([],false) else(39 :: w,true):=by
 unfold fy
 rw[ac_ hw,hp,ac_ (by decide)]
theorem Xb {w:aj} (h:(fy w).2=true) (hne:(fy w).1≠[]):fy (fy w).1=((fy w).1,true):=by
 by_cases hw:w=[]
 ·have e:fy w=([],true):=ae_ hw
  rw[e] at hne
  exact bh_ rfl hne
 ·cases hp:(w.all kt && decide (w.length≤200)) with
  | false =>
   have e:fy w=([],false):=by
    unfold fy
    rw[ac_ hw,hp,ae_ rfl]
   rw[e] at h
   cases h
  | true =>
   have hp':=hp
   rw[ag_,ai_] at hp'
   have e:=uy hw hp
   by_cases h61:w.head? = some 61
   ·rw[ae_ h61] at e
    dsimp only at e
    by_cases hr:(ft (ba (w.drop 1))).2=true∧g5 (ft (ba (w.drop 1))).1≠[]∧(g5 (ft (ba (w.drop 1))).1).length < 200
    ·have hd:(w.drop 1).length≤200:=by rw[dp_]; omega
     have hok:=(ot (x:=ba (w.drop 1)) (by rw[aK]; omega)).2.2.1 hr.1
     have ht:g5 (ft (ba (w.drop 1))).1=fT (ft (ba (w.drop 1))).1:=by
      have:=hr.2.1
      unfold g5 at this ⊢
      by_cases k:ef (ft (ba (w.drop 1))).1=true∧(fT (ft (ba (w.drop 1))).1).length≤200
      ·rw[ae_ k]
      ·rw[ac_ k] at this
       exact bh_ rfl this
     rw[ae_ hr,ht] at e
     rw[e]
     exact PI hok (by rw[←ht]; exact hr.2.2) (by rw[←ht]; exact hr.2.1)
    ·rw[ac_ hr] at e
     rw[e] at h
     cases h
   ·rw[ac_ h61] at e
    by_cases hn:fw w=true
    ·rw[ae_ hn] at e
     obtain⟨r0,r1⟩:=A2 hn
     obtain⟨i1,i2,i3,i4,i5,i6⟩:=Gi r0 r1
     rw[e]
     dsimp only
     rw[uy i6 (by rw[i3,bb_ (by omega)]; rfl),ac_ i4,ae_ i1,i2]
    ·rw[ac_ hn] at e
     by_cases hv:(bo w).2=true
     ·rw[ae_ hv] at e
      rw[e]
      dsimp only
      exact e
     ·rw[ac_ hv] at e
      by_cases h200:w.length=200
      ·rw[ae_ h200] at e
       rw[e] at h
       cases h
      ·rw[ac_ h200] at e
       rw[e]
       dsimp only
       have hpl:(39 :: w).all kt=true:=by
        rw[cb_,hp'.1]
        rfl
       have hov:az (vT (ba w))=true:=by
        unfold az vT
        rw[ae_ rfl]
        simp only[ck_,bt_]
        rw[vS,hp'.1,aK]
        exact bb_ (by omega)
       have hvt:(bo (39 :: w)).2=true:=by
        have e:lb (bG (vT (ba w)))=39 :: w:=by
         show lb ((⟨#[39]⟩:aa_)++ba w)=_
         rw[show(⟨#[39]⟩:aa_)=ba [39] from rfl,kN,dl]
         rfl
        have:=qG hov
        rw[e] at this
        rw[this]
       have hnn : ¬fw (39 :: w)=true:=by
        unfold fw js
        have hm:iH (39 :: w)=39 :: w:=rfl
        rw[hm,cb_]
        have:dw 39=false:=by decide
        rw[this]
        simp
       rw[uy (by simp) (by rw[hpl,bb_ (by rw[aj_]; omega)]; rfl),ac_ (by simp),ac_ hnn,ae_ hvt]
def acB (x:aa_):Prop:=x=eS∨eA x=true
theorem aaL {x:aa_} (hx:x.size≤9223372036854775807) (h:(dk x).2=true):acB (dk x).1:=by
 obtain⟨w,rfl⟩ : ∃ s,x=ba s:=⟨lb x,(dM x).symm⟩
 rw[aK] at hx
 rw[ux hx] at h ⊢
 by_cases he:(fy w).1=[]
 ·left
  show ba (fy w).1=eS
  rw[he]
 ·right
  have hi:=Xb h he
  have hl:(fy w).1.length≤200:=by
   have:=(kO (x:=ba w) (by rw[aK]; exact hx)).2.2
   rw[ux hx,aK] at this
   exact this
  show eA (ba (fy w).1)=true
  unfold eA
  rw[ux (by omega),hi]
  have:ba (fy w).1≠eS:=fun e=>he (Db (b:=[]) e)
  simp[this]
structure Mov (g:ab→ab):Prop where
 ok : ∀ x,dj x=true→dj (g x)=true
 kids : ∀ x,dj x=true→(g x).2.2.2.2.2.1=x.2.2.2.2.2.1
 six : ∀ x,dj x=true→((g x).1=6↔x.1=6)
 three : ∀ x,(g x).1=3→x.1=3
section
variable {g:ab→ab} (M:Mov g) {f:List ab}
include M
end
def ac2 (row many:Int) (closed:Bool) (other n:Int):Int:=if n < row then n else if closed=false then n+many else if n < row+many then other else n - many
def rowP (row many:Int) (closed:Bool) (other:Int) (p:bX):bX:=((p.1.1,ac2 row many closed other p.1.2.1,()),p.2.1,p.2.2.1,())
noncomputable def ck (x:aa_):Option (List ab):=if(lb x).head? = some 61∧(ft (ba ((lb x).drop 1))).2=true then some (ft (ba ((lb x).drop 1))).1 else none
theorem kk {x:aa_} {f:List ab} (h:ck x=some f) (hx:x.size≤9223372036854775807):ef f=true:=by
 unfold ck at h
 split at h
 ·rename_i k
  cases h
  have hl:(ba ((lb x).drop 1)).size≤9223372036854775807:=by
   rw[aK,dp_,iR]
   omega
  exact(ot hl).2.2.1 k.2
 ·cases h
section
variable {f:List ab} (hf:ef f=true)
include hf
end
section
variable {f:List ab} (hf:ef f=true)
include hf
end
theorem UX {x:aa_}:eA x=((dk x).2 && !decide (x=eS) && decide ((dk x).1=x)):=rfl
section
variable {s:List ae} (hs : ∀ c∈s,c.2.1.size≤9223372036854775807) (hl:s.length≤1000000000000)
include hs hl
theorem BK : ∀(ys pre:List ae),s=pre++ys→og s (pre.length:Int)=some ((Du pre.getLast? ys,()),())
 | [],pre,h=>by
  rw[yY,aE (br h)]
  simp only[Du]
 | y :: ys,pre,h=>by
  have hy:=hs y (by rw[h]; simp)
  have ih:=BK ys (pre++[y]) (aC h)
  rw[ff_] at ih
  simp only[es_,Option.or_some,gm_] at ih
  rw[yY,aJ (bF h),bK h,(kO hy).2.1]
  simp only[ab_]
  rw[bK h,kW]
  simp only[ab_,Du,bK h,sG,UX]
  cases hr:bM y.1 with
  | false=>simp
  | true =>
   cases hi:(dk y.2.1).2 with
   | false=>simp
   | true =>
    by_cases he:y.2.1=eS
    ·simp[he]
    ·by_cases hq:(dk y.2.1).1=y.2.1
     ·rcases gk_ pre with hp | ⟨q,z,hp⟩
      ·subst hp
       rw[aM (pre:=[]) h (by omega)]
       simp[he,hq]
       exact ih
      ·rw[List.concat_eq_append] at hp
       subst hp
       have hz:s=q++z :: (y :: ys):=by rw[h]; simp
       have hql:((q++[z]).length:Int) - 1=(q.length:Int):=by simp
       have hqs:q.length < s.length:=by rw[hz]; simp
       rw[hql,wr (by omega) (by omega),bK hz,Fb,aM h (by omega)]
       simp only[ab_,ff_,es_,gm_]
       rw[ih]
       cases ha:cl z.1 y.1 <;> simp[he,hq]
     ·simp[he,hq]
theorem Fc:Al s=some ((aO s,()),()):=by
 rw[QH]
 by_cases h:s.length≤120
 ·rw[aE (by simp; omega)]
  have:=BK hs hl s [] rfl
  simp only[bl_,Int.ofNat_zero,List.getLast?_nil] at this
  rw[this]
  simp[aO,h]
 ·rw[aJ (by simp; omega)]
  simp[aO,h]
end
theorem lq {a b:am}:(bq au a b=true)=(a=b):=propext (kJ rfl)
noncomputable def bV (r:am):List ae→aa_
 | []=>eS
 | c :: cs=>if c.1=r then c.2.1 else bV r cs
theorem zD {s:List ae} {r:am} (hl:s.length≤1000000000000) : ∀(ys pre:List ae),s=pre++ys→qr s (s.length:Int) (pre.length:Int) r.1 r.2.1=some ((bV r ys,()),())
 | [],pre,h=>by
  rw[wM,aE (br h)]
  rfl
 | y :: ys,pre,h=>by
  have ih:=zD (r:=r) hl ys (pre++[y]) (aC h)
  rw[wM,aJ (bF h),bK h,aM h (by omega),ih]
  show(if bq au y.1 r=true then _ else _)=_
  by_cases e:y.1=r
  ·rw[ae_ (by rw[lq]; exact e),bV,ae_ e]
  ·rw[ac_ (by rw[lq]; exact e),bV,ac_ e]
theorem PJ {s:List ae} {r:am} (hl:s.length≤1000000000000):CN s r=some ((bV r s,()),()):=by
 rw[OD]
 exact zD hl s [] rfl
theorem Iz {s:List ae} {r:am} (hl:s.length≤1000000000000) : ∀(ys pre:List ae),s=pre++ys→Aw s (pre.length:Int) r.1 r.2.1=some ((bV r ys,()),())
 | [],pre,h=>by
  rw[E2,aE (br h)]
  rfl
 | y :: ys,pre,h=>by
  have ih:=Iz (r:=r) hl ys (pre++[y]) (aC h)
  rw[E2,aJ (bF h),bK h,aM h (by omega),ih]
  show(if bq au y.1 r=true then _ else _)=_
  by_cases e:y.1=r
  ·rw[ae_ (by rw[lq]; exact e),bK h,bV,ae_ e]
  ·rw[ac_ (by rw[lq]; exact e),bV,ac_ e]
theorem PK {s:List ae} {r:am} (hl:s.length≤1000000000000):Hk s r=some ((bV r s,()),()):=by
 rw[Yv]
 exact Iz hl s [] rfl
end Go.Proofs.YthbkdfcmjmmpgaaGreatDoor.Abs
