/- Regions whose operations may stand in other orders. -/
import Derived.Test.YthbkdfcmjmmpgaaGreatDoorZA2
import Derived.LoopN
import Derived.Sort.AssemblyPlain
import Derived.Lib.BitFns
import Derived.Lib.ItoaNum
import Derived.Lib.SlTrimSet
import Derived.Lib.IndexMore
import Derived.Lib.Split
import Derived.Lib.Replace
import Derived.Lib.Join
import Derived.Lib.ParseIntB
import Derived.Lib.Strings
import Derived.Sort.Walk0
import Derived.ChangeArms
import Derived.DataReads
import Derived.WideShapes
import Derived.Carry
import Derived.OpenShut
import Derived.LaidLaws
import Derived.LaidHandle
import Derived.LaidMore
import Derived.Lib.LaidTab
import Derived.Below
set_option linter.unusedVariables false
set_option linter.unusedSimpArgs false
set_option linter.unusedSectionVars false
open Array renaming getD_eq_getD_getElem?→co_,getElem?_eq_getElem→cn_,getElem?_eq_none→ex_,getElem?_eq_some_iff→ca_,getElem?_toList→dc_,size_push→gt_,toList_inj→dv_
open Bool renaming and_eq_true→ah_,not_eq_true'→dy_,not_true→bc_,or_eq_false_iff→gr_
open ByteArray renaming toList→ag_
open Go.Lib renaming bitLen→fh_
open Go.Result renaming andThen_ok→av_
open Go.Sem renaming run_bind→bf_,run_pure→bj_
open List renaming all_eq_true→ck_,append_nil→bx_,eq_nil_of_length_eq_zero→ce_,foldl_cons→ek_,getElem?_append_left→ci_,getElem?_append_right→df_,getElem?_eq_getElem→as_,getElem?_eq_some_iff→ax_,getElem_of_mem→dj_,length_append→ae_,length_cons→ak_,map_cons→cs_,mem_append_left→cz_,mem_append_right→cq_,mem_append→bo_,mem_cons_of_mem→ar_,mem_cons→bb_,mem_map_of_mem→dw_,mem_of_getElem?→cg_,mem_range→ds_,mem_singleton→bh_,nodup_cons→eu_,pairwise_cons→bq_,prefix_rfl→fz_,range→bs_,replicate→bl_
open List.cons renaming inj→fx_
open Nat renaming add_assoc→dh_,add_sub_cancel_left→fw_,add_zero→ea_,beq→cp_,eq_of_beq_eq_true→br_,le_refl→aq_,le_trans→bn_,lt_of_lt_of_le→cl_,zero_add→cv_,zero_le→dd_
open Option renaming bind_eq_some_iff→am_,bind_some→ab_,getD_some→cw_
open Option.some renaming injEq→bg_,inj→cb_
open _root_ renaming ByteArray→aa_,absurd→bk_,decide_eq_true_eq→ai_,if_neg→ad_,if_pos→af_,of_decide_eq_true→dx_
namespace Go.Proofs.YthbkdfcmjmmpgaaGreatDoor.Abs
open Go Go.RowKit
theorem Zl {s:Nat} {e:Nat} {b:Nat} {a:Nat}:(s ||| 2 ^ e ||| b).testBit a=(s.testBit a || decide (e=a) || b.testBit a):=by
 simp[Nat.testBit_or,Nat.testBit_two_pow]
theorem JI (g:Nat→Nat) (a:Nat) : ∀(l:List Edge) (s:Nat),(l.foldl (fun s e=>if Region.binds .any e then s ||| 2 ^ e.on ||| g e.on else s) s).testBit a=true→s.testBit a=true ∨ ∃ e∈l,Region.binds .any e=true∧(e.on=a∨(g e.on).testBit a=true)
 | [],s,h => .inl h
 | e :: l,s,h=>by
  rw[ek_] at h
  rcases JI g a l _ h with h | ⟨e',h1,h2⟩
  ·split at h
   ·rename_i hb
    rw[Zl] at h
    simp only[Bool.or_eq_true,ai_] at h
    rcases h with(h | h) | h
    ·exact .inl h
    ·exact .inr ⟨e,by simp,hb,.inl h⟩
    ·exact .inr ⟨e,by simp,hb,.inr h⟩
   ·exact .inl h
  ·exact .inr ⟨e',ar_ _ h1,h2⟩
def Ga (acc:Array Nat) (o:Oper):Nat:=o.after.foldl (fun s e=>if Region.binds .any e then s ||| 2 ^ e.on ||| acc.getD e.on 0 else s) 0
theorem DW : ∀(l:List Oper) (acc:Array Nat),let r:=l.foldl (fun acc o=>acc.push (Ga acc o)) acc
  r.size=acc.size+l.length∧(∀ k,k < acc.size→r[k]? = acc[k]?) ∧ ∀ k o,l[k]? = some o → ∃ acc',(∀ j,j < acc.size+k→acc'[j]? = r[j]?)∧acc'.size=acc.size+k∧r[acc.size+k]? = some (Ga acc' o)
 | [],acc=>⟨by simp,fun k _=>rfl,fun k o h=>by simp at h⟩
 | o :: l,acc=>by
  obtain⟨h1,h2,h3⟩:=DW l (acc.push (Ga acc o))
  refine⟨by simp only[ek_,h1,gt_,ak_]; omega,fun k hk => ?_,fun k o' hk => ?_⟩
  ·rw[ek_,h2 k (by rw[gt_]; omega),Array.getElem?_push_lt hk,cn_ hk]
  ·rw[ek_]
   cases k with
   | zero =>
    simp at hk
    subst hk
    refine⟨acc,fun j hj => ?_,rfl,?_⟩
    ·rw[h2 j (by rw[gt_]; omega),Array.getElem?_push_lt (by omega),cn_ (by omega)]
    ·rw[h2 (acc.size+0) (by rw[gt_]; omega)]
     simp
   | succ k =>
    obtain⟨acc',h4,h5,h6⟩:=h3 k o' (by simpa using hk)
    rw[gt_] at h4 h5 h6
    refine⟨acc',fun j hj=>h4 j (by omega),by omega,?_⟩
    rw[show acc.size+(k+1)=acc.size+1+k by omega]
    exact h6
theorem UJ {all:Array Oper} {a b:Nat} (h:((Region.before all).getD b 0).testBit a=true) : ∃ o,all[b]? = some o ∧ ∃ e∈o.after,Region.binds .any e=true∧(e.on=a∨(e.on < b∧((Region.before all).getD e.on 0).testBit a=true)):=by
 have hb:Region.before all=all.toList.foldl (fun acc o=>acc.push (Ga acc o)) #[]:=by
  unfold Region.before
  rw[←Array.foldl_toList]
  rfl
 obtain⟨h1,_,h3⟩:=DW all.toList #[]
 rw[←hb] at h1 h3
 have hlt:b < all.size:=by
  rcases Nat.lt_or_ge b all.size with h' | h'
  ·exact h'
  ·have:(Region.before all)[b]? = none:=ex_ (by rw[h1]; simpa using h')
   rw[co_,this] at h
   simp at h
 obtain⟨acc',h4,h5,h6⟩:=h3 b all[b] (by rw[dc_]; exact cn_ hlt)
 simp only[Array.size_empty,cv_] at h4 h5 h6
 refine⟨all[b],cn_ hlt,?_⟩
 rw[co_,h6,cw_] at h
 unfold Ga at h
 rw[←Array.foldl_toList] at h
 rcases JI (fun n=>acc'.getD n 0) a _ 0 h with h | ⟨e,h7,h8,h9⟩
 ·simp at h
 ·refine⟨e,by simpa using h7,h8,?_⟩
  rcases h9 with h9 | h9
  ·exact .inl h9
  ·right
   by_cases he:e.on < b
   ·refine⟨he,?_⟩
    rw[co_,←h4 e.on he,←co_]
    exact h9
   ·rw[co_,ex_ (by omega)] at h9
    simp at h9
theorem JJ {all:Array Oper} {S:Nat→Prop} (hS : ∀ b o,S b→all[b]? = some o → ∀ e∈o.after,Region.binds .any e=true→S e.on) : ∀(b a:Nat),(∀ o,all[b]? = some o → ∀ e∈o.after,Region.binds .any e=true→S e.on)→((Region.before all).getD b 0).testBit a=true→S a:=by
 intro b
 induction b using Nat.strongRecOn with
 | _ b ih =>
  intro a hb h
  obtain⟨o,ho,e,he,hbd,h | ⟨hlt,h⟩⟩:=UJ h
  ·rw[←h]
   exact hb o ho e he hbd
  ·have hse:=hb o ho e he hbd
   exact ih e.on hlt a (fun o' ho' e' he' hb'=>hS e.on o' hse ho' e' he' hb') h
structure Tr where
 i:Nat
 o:Oper
 v:SV
 u:Up
 see:List Nat
 ran:Bool
def lQ (τ:Tr):Bz:={i:=τ.i,see:=τ.see,turn:=τ.u.map (·.1)}
def jh (S:Nat→Bool):List Tr→List SV→List SV
 | [],sl=>sl
 | τ :: T,sl=>jh S T (if S τ.i=true then nw sl τ.o.dst τ.v else sl)
def j8 (S:Nat→Bool):List Tr→(Nat→Option bh)→Nat→Option bh
 | [],g=>g
 | τ :: T,g=>j8 S T (if S τ.i=true then bG g τ.u else g)
theorem EW {S:Nat→Bool} : ∀ {T:List Tr} {sl:List SV},(∀ τ∈T,S τ.i=false)→jh S T sl=sl
 | [],_,_=>rfl
 | τ :: T,sl,h=>by
  unfold jh
  rw[ad_ (by rw[h τ (by simp)]; simp)]
  exact EW fun τ hτ=>h τ (ar_ _ hτ)
theorem EX {S:Nat→Bool} : ∀ {T:List Tr} {g:Nat→Option bh},(∀ τ∈T,S τ.i=false)→j8 S T g=g
 | [],_,_=>rfl
 | τ :: T,g,h=>by
  unfold j8
  rw[ad_ (by rw[h τ (by simp)]; simp)]
  exact EX fun τ hτ=>h τ (ar_ _ hτ)
theorem BK {S S':Nat→Bool} : ∀ {T:List Tr} {sl:List SV},(∀ τ∈T,S τ.i=S' τ.i)→jh S T sl=jh S' T sl
 | [],_,_=>rfl
 | τ :: T,sl,h=>by
  unfold jh
  rw[h τ (by simp)]
  exact BK fun τ hτ=>h τ (ar_ _ hτ)
theorem BL {S S':Nat→Bool} : ∀ {T:List Tr} {g:Nat→Option bh},(∀ τ∈T,S τ.i=S' τ.i)→j8 S T g=j8 S' T g
 | [],_,_=>rfl
 | τ :: T,g,h=>by
  unfold j8
  rw[h τ (by simp)]
  exact BL fun τ hτ=>h τ (ar_ _ hτ)
theorem DX : ∀(l:List SV) (d:Nat) (v:SV),(dq l d v).length=l.length
 | [],_,_=>rfl
 | x :: l,0,v=>rfl
 | x :: l,d+1,v=>by simp[dq,DX l d v]
theorem Mu : ∀(l:List SV) (d t:Nat) (v:SV),d≠t→gT (dq l d v) t=gT l t
 | [],_,_,_,_=>rfl
 | x :: l,0,0,v,h=>bk_ rfl h
 | x :: l,0,t+1,v,h=>rfl
 | x :: l,d+1,0,v,h=>rfl
 | x :: l,d+1,t+1,v,h=>Mu l d t v (fun e=>h (by rw[e]))
theorem JK : ∀(l l':List SV) (d:Nat) (v:SV),l.length=l'.length→gT (dq l d v) d=gT (dq l' d v) d
 | [],[],_,_,_=>rfl
 | [],_ :: _,_,_,h=>by simp at h
 | _ :: _,[],_,_,h=>by simp at h
 | x :: l,y :: l',0,v,h=>rfl
 | x :: l,y :: l',d+1,v,h=>JK l l' d v (by simpa using h)
theorem Mv : ∀(l:List SV) (d e:Nat) (v u:SV),d≠e→dq (dq l d v) e u=dq (dq l e u) d v
 | [],_,_,_,_,_=>rfl
 | x :: l,0,0,v,u,h=>bk_ rfl h
 | x :: l,0,e+1,v,u,h=>rfl
 | x :: l,d+1,0,v,u,h=>rfl
 | x :: l,d+1,e+1,v,u,h=>congrArg (x :: ·) (Mv l d e v u (fun hh=>h (by rw[hh])))
theorem Gb {S S':Nat→Bool} {t:Nat} : ∀ {T:List Tr} {sl sl':List SV},(∀ τ∈T,τ.o.dst=some t→S τ.i=S' τ.i)→sl.length=sl'.length→gT sl t=gT sl' t→gT (jh S T sl) t=gT (jh S' T sl') t
 | [],_,_,_,_,h=>h
 | τ :: T,sl,sl',hT,hl,hs=>by
  unfold jh
  refine Gb (fun τ hτ=>hT τ (ar_ _ hτ)) ?_ ?_
  ·have : ∀(S:Nat→Bool) (sl:List SV),(if S τ.i=true then nw sl τ.o.dst τ.v else sl).length=sl.length:=by
    intro S sl
    split
    ·unfold nw
     split
     ·exact DX _ _ _
     ·rfl
    ·rfl
   rw[this,this,hl]
  ·by_cases hd:τ.o.dst=some t
   ·rw[hT τ (by simp) hd]
    split
    ·rw[hd]
     exact JK _ _ _ _ hl
    ·exact hs
   ·have : ∀(S:Nat→Bool) (sl:List SV),gT (if S τ.i=true then nw sl τ.o.dst τ.v else sl) t=gT sl t:=by
     intro S sl
     split
     ·unfold nw
      split
      ·rename_i d hdd
       exact Mu _ _ _ _ (fun e=>hd (by rw[hdd,e]))
      ·rfl
     ·rfl
    rw[this,this,hs]
theorem ph {u:Up} {r:Nat} : ∀ {g g':Nat→Option bh},(g r=g' r→bG g u r=bG g' u r)∧(r ∉ u.map (·.1)→bG g u r=g r):=by
 induction u with
 | nil=>exact fun {g g'}=>⟨fun h=>h,fun _=>rfl⟩
 | cons p u ih =>
  intro g g'
  obtain⟨k,x⟩:=p
  constructor
  ·intro h
   refine(ih (g:=fun s=>if s=k then x else g s) (g':=fun s=>if s=k then x else g' s)).1 ?_
   by_cases hk:r=k
   ·rw[af_ hk,af_ hk]
   ·rw[ad_ hk,ad_ hk,h]
  ·intro h
   rw[cs_,bb_] at h
   show bG (fun s=>if s=k then x else g s) u r=g r
   rw[(ih (g:=fun s=>if s=k then x else g s) (g':=g)).2 (fun hh=>h (.inr hh)),ad_ (fun e=>h (.inl e))]
theorem Mw {S S':Nat→Bool} {r:Nat} : ∀ {T:List Tr} {g g':Nat→Option bh},(∀ τ∈T,r∈τ.u.map (·.1)→S τ.i=S' τ.i)→g r=g' r→j8 S T g r=j8 S' T g' r
 | [],_,_,_,h=>h
 | τ :: T,g,g',hT,hs=>by
  unfold j8
  refine Mw (fun τ hτ=>hT τ (ar_ _ hτ)) ?_
  by_cases hd:r∈τ.u.map (·.1)
  ·rw[hT τ (by simp) hd]
   split
   ·exact ph.1 hs
   ·exact hs
  ·have : ∀(S:Nat→Bool) (g:Nat→Option bh),(if S τ.i=true then bG g τ.u else g) r=g r:=by
    intro S g
    split
    ·exact(ph (g':=g)).2 hd
    ·rfl
   rw[this,this,hs]
theorem UK {sl:List SV} {d e:Option Nat} {v u:SV} (h : ∀ t,d=some t→e≠some t):nw (nw sl d v) e u=nw (nw sl e u) d v:=by
 cases d with
 | none=>cases e <;> rfl
 | some d=>cases e with
  | none=>rfl
  | some e=>exact Mv sl d e v u (fun hh=>h d rfl (by rw[hh]))
theorem UL {g:Nat→Option bh} {u u':Up} (h : ∀ r,r∈u.map (·.1)→r ∉ u'.map (·.1)):bG (bG g u) u'=bG (bG g u') u:=by
 funext r
 by_cases h1:r∈u.map (·.1)
 ·rw[(ph (g':=g)).2 (h r h1)]
  exact ph.1 (((ph (g':=g)).2 (h r h1)).symm)
 ·rw[(ph (u:=u) (g':=g)).2 h1]
  exact ph.1 ((ph (u:=u) (g':=g)).2 h1)
theorem Gc {S:Nat→Bool} {τ:Tr} (hS:S τ.i=false) : ∀ {T:List Tr} {sl:List SV},τ∈T→(T.map (·.i)).Nodup→(∀ τ'∈T,S τ'.i=true→τ.i < τ'.i → ∀ t,τ.o.dst=some t→τ'.o.dst≠some t)→T.Pairwise (fun x y=>x.i < y.i) →
  jh (fun j=>S j || j == τ.i) T sl=nw (jh S T sl) τ.o.dst τ.v
 | [],_,h,_,_,_=>by simp at h
 | τ0 :: T,sl,hm,hnd,hc,hp=>by
  rw[cs_,eu_] at hnd
  rw[bq_] at hp
  unfold jh
  rcases bb_.1 hm with rfl | hm'
  ·have e1 : ∀ τ'∈T,(S τ'.i || τ'.i == τ.i)=S τ'.i:=fun τ' hτ'=>by
    have:τ'.i≠τ.i:=fun e=>hnd.1 (by rw[←e]; exact dw_ (f:=(·.i)) hτ')
    simp[this]
   rw[BK e1,af_ (by simp),ad_ (by rw[hS]; simp)]
   have key : ∀(T:List Tr) (sl:List SV),(∀ τ'∈T,S τ'.i=true → ∀ t,τ.o.dst=some t→τ'.o.dst≠some t)→jh S T (nw sl τ.o.dst τ.v)=nw (jh S T sl) τ.o.dst τ.v:=by
    intro T
    induction T with
    | nil=>intro sl _; rfl
    | cons τ' T ih =>
     intro sl h
     unfold jh
     split
     ·rename_i hs
      rw[UK (h τ' (by simp) hs)]
      exact ih _ (fun τ hτ=>h τ (ar_ _ hτ))
     ·exact ih _ (fun τ hτ=>h τ (ar_ _ hτ))
   exact key T sl (fun τ' hτ' hs=>hc τ' (ar_ _ hτ') hs (hp.1 τ' hτ'))
  ·have hne:τ0.i≠τ.i:=fun e=>hnd.1 (by rw[e]; exact dw_ (f:=(·.i)) hm')
   have:(S τ0.i || τ0.i == τ.i)=S τ0.i:=by simp[hne]
   rw[this]
   exact Gc hS hm' hnd.2 (fun τ' hτ'=>hc τ' (ar_ _ hτ')) hp.2
theorem Gd {S:Nat→Bool} {τ:Tr} (hS:S τ.i=false) : ∀ {T:List Tr} {g:Nat→Option bh},τ∈T→(T.map (·.i)).Nodup→(∀ τ'∈T,S τ'.i=true→τ.i < τ'.i → ∀ r,r∈τ.u.map (·.1)→r ∉ τ'.u.map (·.1))→T.Pairwise (fun x y=>x.i < y.i) →
  j8 (fun j=>S j || j == τ.i) T g=bG (j8 S T g) τ.u
 | [],_,h,_,_,_=>by simp at h
 | τ0 :: T,g,hm,hnd,hc,hp=>by
  rw[cs_,eu_] at hnd
  rw[bq_] at hp
  unfold j8
  rcases bb_.1 hm with rfl | hm'
  ·have e1 : ∀ τ'∈T,(S τ'.i || τ'.i == τ.i)=S τ'.i:=fun τ' hτ'=>by
    have:τ'.i≠τ.i:=fun e=>hnd.1 (by rw[←e]; exact dw_ (f:=(·.i)) hτ')
    simp[this]
   rw[BL e1,af_ (by simp),ad_ (by rw[hS]; simp)]
   have key : ∀(T:List Tr) (g:Nat→Option bh),(∀ τ'∈T,S τ'.i=true → ∀ r,r∈τ.u.map (·.1)→r ∉ τ'.u.map (·.1))→j8 S T (bG g τ.u)=bG (j8 S T g) τ.u:=by
    intro T
    induction T with
    | nil=>intro g _; rfl
    | cons τ' T ih =>
     intro g h
     unfold j8
     split
     ·rename_i hs
      rw[UL (h τ' (by simp) hs)]
      exact ih _ (fun τ hτ=>h τ (ar_ _ hτ))
     ·exact ih _ (fun τ hτ=>h τ (ar_ _ hτ))
   exact key T g (fun τ' hτ' hs=>hc τ' (ar_ _ hτ') hs (hp.1 τ' hτ'))
  ·have hne:τ0.i≠τ.i:=fun e=>hnd.1 (by rw[e]; exact dw_ (f:=(·.i)) hm')
   have:(S τ0.i || τ0.i == τ.i)=S τ0.i:=by simp[hne]
   rw[this]
   exact Gd hS hm' hnd.2 (fun τ' hτ'=>hc τ' (ar_ _ hτ')) hp.2
section
variable {P:Program} {E:cD} {call:(I:ax)→List SV→aM→Option (I.sh.den×I.bx.den)} {w0:World} {X:Nat→Prop} {Pr0:Nat→Nat→Prop}
variable {R:Type} {K:St→Option R} {z:R}
def Xc (E:cD) (call:(I:ax)→List SV→aM→Option (I.sh.den×I.bx.den)) (all:Array Oper) (base:Nat) (τ:Tr) (sl:List SV) (g:Nat→Option bh):Prop :=
 iw all τ.o sl τ.ran∧(τ.ran=true → ∃ res,cE E call τ.o ((dN τ.o.op).map (ev sl)) res (base+64*τ.i) cC=some (τ.v,τ.u) ∧ ∀ r x,aL res r=some x→r∈τ.see∧g r=some x)∧(τ.ran=false→τ.v = .tup []∧τ.u=[])
theorem Mx {all:Array Oper} {base:Nat} : ∀ {l:List (Nat×Oper)} {g:List Bz} {σ:St},cK E call all true base l g σ K=some z→(l.map (·.1)).Pairwise (· < ·) →
  ∃(T:List Tr) (σ':St),T.map (fun τ=>(τ.i,τ.o))=l∧(∀ τ∈T,Xc E call all base τ (jh (fun j=>decide (j < τ.i)) T σ.slots) (j8 (fun j=>decide (j < τ.i)) T (aL σ.res)))∧σ'.slots=jh (fun _=>true) T σ.slots∧aL σ'.res=j8 (fun _=>true) T (aL σ.res) ∧
   σ'.n0=σ.n0∧σ'.nx=σ.nx∧K σ'=some z∧Dj all (Region.before all) ((T.map lQ).reverse++g)=true∧H1 all=true
 | [],g,σ,h,_=>by
  unfold cK at h
  simp only at h
  split at h
  ·rename_i h1 h2
   exact⟨[],σ,rfl,fun τ hτ=>by simp at hτ,rfl,rfl,rfl,rfl,h,h1,h2⟩
  ·cases h
 | (i,o) :: l,g,σ,h,hp=>by
  obtain⟨ran,v,u,see,hg,hran,hskip,hrest⟩:=DV h
  rw[cs_,bq_] at hp
  obtain⟨T,σ',h1,h2,h3,h4,h5,h6,h7,h8,h9⟩:=Mx hrest hp.2
  have hT : ∀ τ∈T,i < τ.i:=by
   intro τ hτ
   have:(τ.i,τ.o)∈l:=by
    rw[←h1]
    exact dw_ (f:=fun τ:Tr=>(τ.i,τ.o)) hτ
   exact hp.1 _ (dw_ (f:=(·.1)) this)
  have hres:aL (oD σ o.dst v u).res=bG (aL σ.res) u:=rM
  refine⟨⟨i,o,v,u,see,ran⟩ :: T,σ',by rw[cs_,h1],?_,?_,?_,h5,h6,h7,?_,h9⟩
  ·intro τ hτ
   rcases bb_.1 hτ with rfl | hτ
   ·have hno : ∀ τ'∈T,decide (τ'.i < i)=false:=fun τ' hτ'=>by
     have:=hT τ' hτ'
     simp
     omega
    have e1:jh (fun j=>decide (j < i)) (⟨i,o,v,u,see,ran⟩ :: T) σ.slots=σ.slots:=by
     unfold jh
     rw[ad_ (by simp)]
     exact EW hno
    have e2:j8 (fun j=>decide (j < i)) (⟨i,o,v,u,see,ran⟩ :: T) (aL σ.res)=aL σ.res:=by
     unfold j8
     rw[ad_ (by simp)]
     exact EX hno
    show Xc E call all base ⟨i,o,v,u,see,ran⟩ (jh (fun j=>decide (j < i)) (⟨i,o,v,u,see,ran⟩ :: T) σ.slots) (j8 (fun j=>decide (j < i)) (⟨i,o,v,u,see,ran⟩ :: T) (aL σ.res))
    rw[e1,e2]
    exact⟨hg,fun hr=>⟨_,(hran hr).1,fun r x hx=>pR hx⟩,hskip⟩
   ·have hlt:=hT τ hτ
    have:=h2 τ hτ
    rw[zx,hres] at this
    unfold jh j8
    rw[af_ (by simp[hlt]),af_ (by simp[hlt])]
    exact this
  ·rw[h3,zx]
   rfl
  ·rw[h4,hres]
   rfl
  ·rw[cs_,List.reverse_cons,List.append_assoc]
   exact h8
theorem My {all:Array Oper} {bf:Array Nat} : ∀ {L:List Bz},Dj all bf L=true→L.Pairwise fun b a=>vO all a b=true→(bf.getD b.i 0).testBit a.i=true
 | [],_ => .nil
 | b :: L,h=>by
  simp only[Dj,ah_,ck_] at h
  refine bq_.2 ⟨fun a ha hc => ?_,My h.2⟩
  have:=h.1 a ha
  rw[hc] at this
  simpa using this
theorem q5 {l m:List Nat} {r:Nat} (h1:r∈l) (h2:r∈m):kI l m=true:=by
 unfold kI
 rw[List.any_eq_true]
 refine⟨r,h1,?_⟩
 cases hh:zm m r with
 | true=>rfl
 | false=>exact bk_ h2 (xR hh)
theorem Xd {sl sl':List SV} {x:Operand} (h : ∀ t,x = .tmp t→gT sl t=gT sl' t):ev sl x=ev sl' x:=by
 cases x with
 | tmp t=>exact h t rfl
 | _=>rfl
theorem Sn {o:Oper} {t:Nat} (h:Operand.tmp t∈dN o.op):t∈Uo o:=List.mem_filterMap.2 ⟨_,h,rfl⟩
theorem BM {α:Type} {p q:α→Bool} : ∀ {l:List α},(∀ x∈l,q x=true→p x=true)→(∃ x∈l,p x=true∧q x=false)→(l.filter q).length < (l.filter p).length
 | [],_,h=>by
  obtain⟨x,hx,_⟩:=h
  simp at hx
 | a :: l,hq,⟨x,hx,h1,h2⟩=>by
  have hle : ∀ l:List α,(∀ x∈l,q x=true→p x=true)→(l.filter q).length≤(l.filter p).length:=by
   intro l
   induction l with
   | nil=>intro _; simp
   | cons a l ih =>
    intro h
    have:=ih (fun x hx=>h x (ar_ _ hx))
    simp only[List.filter_cons]
    by_cases ha:q a=true
    ·rw[af_ ha,af_ (h a (by simp) ha)]
     simpa using this
    ·rw[ad_ ha]
     split
     ·simp only[ak_]; omega
     ·exact this
  have hl:=hle l (fun x hx=>hq x (ar_ _ hx))
  simp only[List.filter_cons]
  rcases bb_.1 hx with rfl | hx
  ·rw[ad_ (by rw[h2]; simp),af_ h1]
   simp only[ak_]
   omega
  ·have:=BM (l:=l) (fun x hx=>hq x (ar_ _ hx)) ⟨x,hx,h1,h2⟩
   by_cases ha:q a=true
   ·rw[af_ ha,af_ (hq a (by simp) ha)]
    simpa using this
   ·rw[ad_ ha]
    split
    ·simp only[ak_]; omega
    ·exact this
structure Mid (all:Array Oper) (base:Nat) (T:List Tr) (σ:St) (γ0:Nat→Option G) (listed:Array Bool) (w0:World) (X:Nat→Prop) (Pr0:Nat→Nat→Prop) (γ:Nat→Option G) (Pr:Nat→Nat→Prop) (a:Act) (w:World):Prop where
 size:listed.size=all.size
 closed : ∀ b o,listed.getD b false=true→all[b]? = some o → ∀ e∈o.after,Region.binds .any e=true→listed.getD e.on false=true
 inv:bF w0 X Pr0 (jh (fun j=>listed.getD j false) T σ.slots) (j8 (fun j=>listed.getD j false) T (aL σ.res)) γ Pr a w
 low : ∀ r,r < base→γ r=γ0 r
 free : ∀ i,listed.getD i false=false → ∀ r,base+64*i≤r→r < base+64*i+64→γ r=none
theorem QO {all:Array Oper} {base:Nat} {Q:Exit→Act→World→Prop} (hS:kK (od w0 X) P E call) (hE:fI P E) {γ0:Nat→Option G} {σ:St} {T:List Tr} (hT:T.map (fun τ=>(τ.i,τ.o))=(bs_ all.size).zip all.toList)
  (hok : ∀ τ∈T,Xc E call all base τ (jh (fun j=>decide (j < τ.i)) T σ.slots) (j8 (fun j=>decide (j < τ.i)) T (aL σ.res))) (hord:Dj all (Region.before all) (T.map lQ).reverse=true) (hedge:H1 all=true)
  (hQ : ∀ γ' Pr' a' w',bF w0 X Pr0 (jh (fun _=>true) T σ.slots) (j8 (fun _=>true) T (aL σ.res)) γ' Pr' a' w'→(∀ r,r < base→γ' r=γ0 r)→(∀ r,base+64*all.size≤r→γ' r=none)→Q .normal a' w') :
  ∀(fuel:Nat) (listed:Array Bool) (γ:Nat→Option G) (Pr:Nat→Nat→Prop) (a:Act) (w:World),Mid all base T σ γ0 listed w0 X Pr0 γ Pr a w→((bs_ all.size).filter fun j => !listed.getD j false).length≤fuel→wpAny P .any all Q fuel listed a w:=by
 have hTi:T.map (·.i)=bs_ all.size:=by
  have:=congrArg (List.map (·.1)) hT
  rw[List.map_map,(range_zip' all).2] at this
  exact this
 have hTo : ∀ τ∈T,all[τ.i]? = some τ.o:=by
  intro τ hτ
  have:(τ.i,τ.o)∈(bs_ all.size).zip all.toList:=by
   rw[←hT]
   exact dw_ (f:=fun τ:Tr=>(τ.i,τ.o)) hτ
  exact(range_zip' all).1 _ this
 have hnd:(T.map (·.i)).Nodup:=by rw[hTi]; exact List.nodup_range
 have hpw:T.Pairwise fun x y=>x.i < y.i:=by
  have:(T.map (·.i)).Pairwise (· < ·):=by rw[hTi]; exact List.pairwise_lt_range
  exact List.pairwise_map.1 this
 have hlt : ∀ τ∈T,τ.i < all.size:=fun τ hτ=>(ca_.1 (hTo τ hτ)).1
 have hall : ∀ i,i < all.size → ∃ τ∈T,τ.i=i:=by
  intro i hi
  have:i∈T.map (·.i):=by rw[hTi]; exact ds_.2 hi
  obtain⟨τ,h1,h2⟩:=List.mem_map.1 this
  exact⟨τ,h1,h2⟩
 have hcl : ∀ τ∈T,∀ τ'∈T,τ.i < τ'.i→vO all (lQ τ) (lQ τ')=true→((Region.before all).getD τ'.i 0).testBit τ.i=true:=by
  have h1:=My hord
  rw[List.pairwise_reverse,List.pairwise_map] at h1
  have h2:T.Pairwise fun x y=>x.i < y.i→vO all (lQ x) (lQ y)=true→((Region.before all).getD y.i 0).testBit x.i=true:=h1.imp fun h _ hc=>h hc
  intro τ hτ τ' hτ'
  by_cases he:τ=τ'
  ·subst he
   intro h
   omega
  ·rcases pair_of hpw h2 hτ hτ' he with h | ⟨h3,_⟩
   ·exact h
   ·intro h
    omega
 have hdone : ∀(listed:Array Bool) (γ:Nat→Option G) (Pr:Nat→Nat→Prop) (a:Act) (w:World),Mid all base T σ γ0 listed w0 X Pr0 γ Pr a w→(∀ j,j < all.size→listed.getD j false=true)→Q .normal a w:=by
  intro listed γ Pr a w hM hl
  have e : ∀ τ∈T,listed.getD τ.i false=true:=fun τ hτ=>hl _ (hlt τ hτ)
  have h1:=hM.inv
  rw[BK (S':=fun _=>true) e,BL (S':=fun _=>true) e] at h1
  refine hQ γ Pr a w h1 hM.low fun r hr => ?_
  have hge:all.size≤(r - base) / 64:=(Nat.le_div_iff_mul_le (by omega)).2 (by omega)
  have hun:listed.getD ((r - base) / 64) false=false:=by
   rw[co_,ex_ (by rw[hM.size]; exact hge)]
   rfl
  have hdm:=Nat.div_add_mod (r - base) 64
  have hml:=Nat.mod_lt (r - base) (show 0 < 64 by omega)
  exact hM.free _ hun r (by omega) (by omega)
 have hback : ∀(j:Nat) (o:Oper),all[j]? = some o → ∀ e∈o.after,Region.binds .any e=true→e.on < j:=by
  intro j o ho e he hb
  have hj:j < all.size:=(ca_.1 ho).1
  have:=(ck_.1 hedge) j (ds_.2 hj)
  rw[ho] at this
  have:=(Array.all_eq_true_iff_forall_mem.1 this) e he
  rw[hb] at this
  simpa[Nat.blt_eq] using this
 intro fuel
 induction fuel with
 | zero =>
  intro listed γ Pr a w hM hf
  have hl : ∀ j,j < all.size→listed.getD j false=true:=by
   intro j hj
   cases hh:listed.getD j false with
   | true=>rfl
   | false =>
    have hmem:j∈(bs_ all.size).filter fun j => !listed.getD j false:=List.mem_filter.2 ⟨ds_.2 hj,by rw[hh]; rfl⟩
    rw[ce_ (Nat.le_zero.1 hf)] at hmem
    simp at hmem
  refine⟨?_,hdone listed γ Pr a w hM hl⟩
  apply List.eq_nil_iff_forall_not_mem.2
  intro j hj
  obtain⟨h1,o,ho,_⟩:=mem_ready.1 hj
  have hjl:j < all.size:=(ca_.1 ho).1
  have:=hl j hjl
  rw[co_,cn_ (by rw[hM.size]; exact hjl)] at this h1
  simp only[cw_] at this h1
  rw[this] at h1
  cases h1
 | succ fuel ih =>
  intro listed γ Pr a w hM hf
  have hgetD : ∀ j,j < all.size→listed.getD j true=listed.getD j false:=by
   intro j hj
   rw[co_,co_,cn_ (by rw[hM.size]; exact hj)]
   rfl
  refine⟨fun hr=>hdone listed γ Pr a w hM ?_,fun i hi => ?_⟩
  ·intro j
   induction j using Nat.strongRecOn with
   | _ j ihj =>
    intro hj
    cases hh:listed.getD j false with
    | true=>rfl
    | false =>
     have:j∈Region.ready .any all listed:=mem_ready.2 ⟨by rw[hgetD j hj,hh],all[j],cn_ hj,fun e he hb=>by
      have hlt':=hback j _ (cn_ hj) e he hb
      exact ihj e.on hlt' (by omega)⟩
     rw[hr] at this
     simp at this
  ·obtain⟨h1,o,ho,hpre⟩:=mem_ready.1 hi
   have hil:i < all.size:=(ca_.1 ho).1
   obtain⟨τ,hτ,rfl⟩:=hall i hil
   have hoτ:=hTo τ hτ
   rw[ho] at hoτ
   cases hoτ
   have hSi:listed.getD τ.i false=false:=by rw[←hgetD _ hil]; exact h1
   have hpast : ∀ τ'∈T,τ'.i < τ.i→vO all (lQ τ') (lQ τ)=true→listed.getD τ'.i false=true:=by
    intro τ' hτ' hl hc
    exact JJ (S:=fun j=>listed.getD j false=true) hM.closed τ.i τ'.i (fun o' ho' e he hb=>by
     rw[ho] at ho'
     cases ho'
     exact hpre e he hb) (hcl τ' hτ' τ hτ hl hc)
   have hnext : ∀ τ'∈T,τ.i < τ'.i→vO all (lQ τ) (lQ τ')=true→listed.getD τ'.i false=false:=by
    intro τ' hτ' hl hc
    cases hh:listed.getD τ'.i false with
    | false=>rfl
    | true =>
     have:=JJ (S:=fun j=>listed.getD j false=true) hM.closed τ'.i τ.i (fun o' ho' e he hb=>hM.closed τ'.i o' hh ho' e he hb) (hcl τ hτ τ' hτ' hl hc)
     simp only[hSi] at this
     cases this
   have hclash : ∀(x y:Tr),x∈T→y∈T→vO all (lQ x) (lQ y)=(kI x.o.dst.toList (y.o.dst.toList++mI all y.o) || kI y.o.dst.toList (mI all x.o) || kI (x.u.map (·.1)) (y.see++y.u.map (·.1)) || kI (y.u.map (·.1)) x.see):=by
    intro x y hx hy
    unfold vO
    rw[show(lQ x).i=x.i from rfl,show(lQ y).i=y.i from rfl,hTo x hx,hTo y hy]
    rfl
   have hsl : ∀ t,t∈mI all τ.o→gT (jh (fun j=>listed.getD j false) T σ.slots) t=gT (jh (fun j=>decide (j < τ.i)) T σ.slots) t:=by
    intro t ht
    refine Gb (fun τ' hτ' hd => ?_) rfl rfl
    show listed.getD τ'.i false=decide (τ'.i < τ.i)
    rcases Nat.lt_trichotomy τ'.i τ.i with h | h | h
    ·rw[hpast τ' hτ' h (by rw[hclash τ' τ hτ' hτ,hd]; simp[q5 (l:=[t]) (m:=τ.o.dst.toList++mI all τ.o) (r:=t) (by simp) (cq_ _ ht)])]
     simp[h]
    ·rw[h,hSi]
     simp
    ·rw[hnext τ' hτ' h (by rw[hclash τ τ' hτ hτ',hd]; simp[q5 (l:=[t]) (m:=mI all τ.o) (r:=t) (by simp) ht])]
     simp
     omega
   have hgl : ∀ r,r∈τ.see→j8 (fun j=>listed.getD j false) T (aL σ.res) r=j8 (fun j=>decide (j < τ.i)) T (aL σ.res) r:=by
    intro r hr
    refine Mw (fun τ' hτ' hd => ?_) rfl
    show listed.getD τ'.i false=decide (τ'.i < τ.i)
    rcases Nat.lt_trichotomy τ'.i τ.i with h | h | h
    ·rw[hpast τ' hτ' h (by rw[hclash τ' τ hτ' hτ]; simp[q5 (m:=τ.see++τ.u.map (·.1)) hd (cz_ _ hr)])]
     simp[h]
    ·rw[h,hSi]
     simp
    ·rw[hnext τ' hτ' h (by rw[hclash τ τ' hτ hτ']; simp[q5 (m:=τ.see) hd hr])]
     simp
     omega
   obtain⟨hg,hran,hskip⟩:=hok τ hτ
   have hargs:(dN τ.o.op).map (ev (jh (fun j=>listed.getD j false) T σ.slots))=(dN τ.o.op).map (ev (jh (fun j=>decide (j < τ.i)) T σ.slots)):=by
    apply List.map_congr_left
    intro x hx
    refine Xd fun t ht=>hsl t ?_
    subst ht
    exact cz_ _ (Sn hx)
   have hg':iw all τ.o (jh (fun j=>listed.getD j false) T σ.slots) τ.ran:=by
    unfold iw at hg ⊢
    split at hg
    ·exact hg
    ·rename_i j want hgd
     obtain⟨d,h2,h3⟩:=hg
     refine⟨d,h2,?_⟩
     rw[hsl d ?_]
     ·exact h3
     ·unfold mI
      rw[hgd]
      refine cq_ _ ?_
      simp only[h2]
      simp
   obtain⟨res,hcore,hknow⟩ : ∃ res,(τ.ran=true→cE E call τ.o ((dN τ.o.op).map (ev (jh (fun j=>listed.getD j false) T σ.slots))) res (base+64*τ.i) cC=some (τ.v,τ.u)) ∧ ∀ r x,aL res r=some x→j8 (fun j=>listed.getD j false) T (aL σ.res) r=some x:=by
    cases hr:τ.ran with
    | false=>exact⟨[],fun h=>(by cases h),fun r x h=>(by simp[aL] at h)⟩
    | true =>
     obtain⟨res,h2,h3⟩:=hran hr
     refine⟨res,fun _=>by rw[hargs]; exact h2,fun r x hx => ?_⟩
     obtain⟨h4,h5⟩:=h3 r x hx
     rw[hgl r h4]
     exact h5
   refine Mt hS hE hM.inv ho hg' hcore hknow hskip (hM.free τ.i hSi) ?_
   intro a' w' γ' Pr' hI' hγ'
   have hset : ∀ j,(listed.setIfInBounds τ.i true).getD j false=(listed.getD j false || j == τ.i):=by
    intro j
    by_cases hj:τ.i=j
    ·subst hj
     have:τ.i < listed.size:=by rw[hM.size]; exact hil
     simp[this]
    ·rw[getD_set_ne false hj]
     have:(j == τ.i)=false:=by
      rw[beq_eq_false_iff_ne]
      exact fun e=>hj e.symm
     rw[this,Bool.or_false]
   refine ih (listed.setIfInBounds τ.i true) γ' Pr' a' w' ⟨?_,?_,?_,?_,?_⟩ ?_
   ·rw[Array.size_setIfInBounds]
    exact hM.size
   ·intro b o' hb ho' e he hbd
    rw[hset] at hb
    refine getD_set_true ?_
    by_cases hbi:b=τ.i
    ·subst hbi
     rw[ho] at ho'
     cases ho'
     exact hpre e he hbd
    ·have hb':listed.getD b false=true:=by simpa[hbi] using hb
     exact hM.closed b o' hb' ho' e he hbd
   ·have e1:(fun j=>(listed.setIfInBounds τ.i true).getD j false)=fun j=>listed.getD j false || j == τ.i:=funext hset
    rw[e1]
    rw[Gc (S:=fun j=>listed.getD j false) hSi hτ hnd (fun τ' hτ' hs hlt' t hd hd'=>by
     have hm1:kI (some t).toList ((some t).toList++mI all τ'.o)=true:=q5 (r:=t) (by simp) (by simp)
     have:=hnext τ' hτ' hlt' (by rw[hclash τ τ' hτ hτ',hd,hd',hm1]; rfl)
     rw[this] at hs
     cases hs) hpw]
    rw[Gd (S:=fun j=>listed.getD j false) hSi hτ hnd (fun τ' hτ' hs hlt' r hr hr'=>by
     have:=hnext τ' hτ' hlt' (by rw[hclash τ τ' hτ hτ']; simp[q5 (m:=τ'.see++τ'.u.map (·.1)) hr (cq_ _ hr')])
     rw[this] at hs
     cases hs) hpw]
    exact hI'
   ·intro r hr
    rw[hγ' r (by rintro⟨h2,_⟩; omega)]
    exact hM.low r hr
   ·intro j hj r h2 h3
    rw[hset] at hj
    simp only[gr_,beq_eq_false_iff_ne] at hj
    have hne:=hj.2
    rw[hγ' r (by
     rintro⟨h4,h5⟩
     rcases Nat.lt_or_gt_of_ne hne with h | h <;> omega)]
    exact hM.free j hj.1 r h2 h3
   ·have:=BM (l:=bs_ all.size) (p:=fun j => !listed.getD j false) (q:=fun j => !(listed.setIfInBounds τ.i true).getD j false) (fun x _ hx=>by
     rw[hset] at hx
     simp only[dy_,gr_] at hx ⊢
     exact hx.1) ⟨τ.i,ds_.2 hil,by rw[hSi]; rfl,by rw[hset]; simp⟩
    omega
where
 range_zip' (ops:Array Oper):(∀ p∈(bs_ ops.size).zip ops.toList,ops[p.1]? = some p.2)∧((bs_ ops.size).zip ops.toList).map (·.1)=bs_ ops.size:=by
  constructor
  ·intro p hp
   obtain⟨k,hk,rfl⟩:=dj_ hp
   rw[List.getElem_zip]
   simp only[List.getElem_range]
   rw[←dc_]
   exact as_ _
  ·exact List.map_fst_zip (by simp)
 pair_of {R1 R2:Tr→Tr→Prop} {T:List Tr} (h1:T.Pairwise R1) (h2:T.Pairwise R2) {x y:Tr} (hx:x∈T) (hy:y∈T) (hne:x≠y):R2 x y∨(R1 y x∧R2 y x):=by
  induction T with
  | nil=>simp at hx
  | cons t T ih =>
   rw[bq_] at h1 h2
   rcases bb_.1 hx with rfl | hx' <;> rcases bb_.1 hy with rfl | hy'
   ·exact bk_ rfl hne
   ·exact .inl (h2.1 y hy')
   ·exact .inr ⟨h1.1 x hx',h2.1 x hx'⟩
   ·exact ih h1.2 h2.2 hx' hy'
theorem Xe {all:Array Oper} {id:Nat} {base:Nat} {Q:Exit→Act→World→Prop} (hm:P.follows .mixedOrders=true) (hS:kK (od w0 X) P E call) (hE:fI P E) {γ0:Nat→Option G}
  {σ:St} {γ:Nat→Option G} {Pr:Nat→Nat→Prop} {a:Act} {w:World} (h:cK E call all true base ((bs_ all.size).zip all.toList) [] σ K=some z)
   (hI:bF w0 X Pr0 σ.slots (aL σ.res) γ Pr a w) (hlow : ∀ r,r < base→γ r=γ0 r) (hhigh : ∀ r,base≤r→γ r=none)
   (hQ : ∀ σ' γ' Pr' a' w',K σ'=some z→bF w0 X Pr0 σ'.slots (aL σ'.res) γ' Pr' a' w'→(∀ r,r < base→γ' r=γ0 r)→(∀ r,base+64*all.size≤r→γ' r=none)→σ'.n0=σ.n0→σ'.nx=σ.nx→Q .normal a' w') :
   (Code.region id all true).wp P Q a w:=by
 obtain⟨T,σ',h1,h2,h3,h4,h5,h6,h7,h8,h9⟩:=Mx h (by rw[(QO.range_zip' all).2]; exact List.pairwise_lt_range)
 rw[bx_] at h8
 refine wp_region_any hm ?_
 have hnone : ∀ j,(Array.replicate all.size false).getD j false=false:=by
  intro j
  rw[co_]
  by_cases hj:j < all.size
  ·simp[hj]
  ·rw[ex_ (by simpa using hj)]
   rfl
 refine QO hS hE h1 h2 h8 h9 (fun γ' Pr' a' w' hi hl hh=>hQ σ' γ' Pr' a' w' h7 (by rw[h3,h4]; exact hi) hl hh h5 h6) all.size _ γ Pr a _ ⟨by simp,?_,?_,hlow,fun i _ r hr _=>hhigh r (by omega)⟩ ?_
 ·intro b o hb
  rw[hnone] at hb
  cases hb
 ·rw[EW (fun τ _=>hnone τ.i),EX (fun τ _=>hnone τ.i)]
  exact⟨gV (fun _ _ _ h=>h) (fun _ _ h=>h) hI.slots,hI.defers,hI.gs,hI.wfs,hI.res,hI.apart,hI.loose,hI.where_,hI.frame,hI.size,hI.os,hI.tape,hI.output,hI.prIn,hI.prOld,hI.pr0⟩
 ·refine bn_ (List.length_filter_le _ _) ?_
  simp
end
end Go.Proofs.YthbkdfcmjmmpgaaGreatDoor.Abs
namespace Go.Proofs.YthbkdfcmjmmpgaaGreatDoor.Abs
open Go Go.RowKit
theorem w5 {P:Program} {c:Code} {Q Q':Exit→Act→World→Prop} (hq : ∀ e a w,Q e a w→Q' e a w) : ∀ {n m:Nat},n≤m → ∀ {a:Act} {w:World},Code.rounds P c Q n a w→Code.rounds P c Q' m a w
 | 0,_,_,_,_,h=>h.elim
 | n+1,0,hle,_,_,_=>bk_ hle (by omega)
 | n+1,m+1,hle,a,w,h=>by
  refine Code.wp_mono (fun e a w h => ?_) (show c.wp P (Exit.then (Code.rounds P c Q n) Q) a w from h)
  cases e <;> first | exact w5 hq (Nat.le_of_succ_le_succ hle) h | exact hq _ _ _ h
def cz (P:Program) (n:Nat):List Fr→(Exit→Act→World→Prop)→Exit→Act→World→Prop
 | [],Q=>Q
 | .seq b :: S,Q=>Exit.then (b.wp P (cz P n S Q)) (cz P n S Q)
 | .block id :: S,Q=>Exit.inBlock id (cz P n S Q)
 | .loop b :: S,Q=>Exit.then (Code.rounds P b (cz P n S Q) n) (cz P n S Q)
section
variable {P:Program} {E:cD} {Q:Exit→Act→World→Prop}
theorem dX {n m:Nat} (h:n≤m) : ∀(S:List Fr) {e:Exit} {a:Act} {w:World},cz P n S Q e a w→cz P m S Q e a w
 | [],_,_,_,hh=>hh
 | .seq b :: S,e,a,w,hh=>by
  cases e <;> first | exact Code.wp_mono (fun _ _ _ h'=>dX h S h') hh | exact dX h S hh
 | .block id :: S,e,a,w,hh=>by
  cases e with
  | exit j =>
   show if j=id then cz P m S Q .normal a w else cz P m S Q (.exit j) a w
   have hh':if j=id then cz P n S Q .normal a w else cz P n S Q (.exit j) a w:=hh
   split at hh'
   ·rename_i hj
    rw[af_ hj]
    exact dX h S hh'
   ·rename_i hj
    rw[ad_ hj]
    exact dX h S hh'
  | _=>exact dX h S hh
 | .loop b :: S,e,a,w,hh=>by
  cases e <;> first | exact w5 (fun _ _ _ h'=>dX h S h') h hh | exact dX h S hh
theorem oe {n:Nat} : ∀(S:List Fr) {a:Act} {w:World},Q .ret a w→cz P n S Q .ret a w
 | [],_,_,h=>h
 | .seq b :: S,_,_,h=>oe S h
 | .block id :: S,_,_,h=>oe S h
 | .loop b :: S,_,_,h=>oe S h
theorem mO {n:Nat} {I:ax} {id:Nat} : ∀(S:List Fr) {S':List Fr} {a:Act} {w:World},zo I id S=some S'→cz P n S' Q .normal a w→cz P n S Q (.exit id) a w
 | [],_,_,_,h,_=>by simp[zo] at h
 | .seq b :: S,_,_,_,h,k=>mO (I:=I) S h k
 | .loop b :: S,_,_,_,h,k=>mO (I:=I) S h k
 | .block j :: S,S',a,w,h,k=>by
  show if id=j then cz P n S Q .normal a w else cz P n S Q (.exit id) a w
  unfold zo at h
  by_cases hj:j=id
  ·subst hj
   have:cp_ j j=true:=by simp
   rw[this] at h
   cases h
   rw[af_ rfl]
   exact k
  ·have:cp_ j id=false:=by
    cases hb:cp_ j id with
    | false=>rfl
    | true=>exact bk_ (br_ hb) hj
   rw[this] at h
   rw[ad_ (fun e=>hj e.symm)]
   exact mO (I:=I) S h k
end
structure At (w0:World) (X:Nat→Prop) (Pr0:Nat→Nat→Prop) (γ0:Nat→Option G) (σ:St) (γ:Nat→Option G) (Pr:Nat→Nat→Prop) (a:Act) (w:World):Prop where
 inv:bF w0 X Pr0 σ.slots (aL σ.res) γ Pr a w
 low : ∀ r,r < σ.n0→γ r=γ0 r
 high : ∀ r,σ.nx≤r→γ r=none
 le:σ.n0≤σ.nx
section
theorem UM (r:Nat) (l:List Nat):l <+: Di r l:=by
 unfold Di
 split
 ·exact fz_
 ·exact List.prefix_append _ _
theorem si {f:List Nat→SV→List Nat} (hf : ∀ l v,l <+: f l v) : ∀(vs:List SV) (l:List Nat),l <+: vs.foldl f l
 | [],l=>fz_
 | v :: vs,l=>(hf l v).trans (si hf vs (f l v))
theorem sj : ∀(d:Nat) (v:SV) (l:List Nat),l <+: rI d v l
 | 0,_,_=>fz_
 | d+1,v,l=>by
  cases v <;> simp only[rI] <;> first | exact fz_ | exact UM _ _ | exact si (fun l v=>sj d v l) _ _
theorem pT (res:aM) : ∀(d j:Nat) (l:List Nat),l <+: uk res d j l
 | 0,_,_=>fz_
 | d+1,j,l=>by
  unfold uk
  split
  ·exact fz_
  ·split
   ·exact(sj 9 _ l).trans (pT res d (j+1) _)
   ·exact(si (fun l v=>sj 1 v l) _ l).trans (pT res d (j+1) _)
   ·exact(si (fun l v=>sj 1 v l) _ l).trans (pT res d (j+1) _)
   ·exact pT res d (j+1) l
theorem PD (res:aM) (vs:List SV) (l:List Nat):l <+: lw res vs l:=(si (fun l v=>sj 9 v l) vs l).trans (pT res 40 0 _)
theorem q6 : ∀ n,(pF n).length=n
 | 0=>rfl
 | n+1=>by simp[pF,q6 n]
theorem Mz : ∀ {n j:Nat},j < n→(pF n)[j]? = some j
 | n+1,j,h=>by
  unfold pF
  by_cases hj:j < n
  ·rw[ci_ (by rw[q6]; exact hj)]
   exact Mz hj
  ·have:j=n:=by omega
   subst this
   rw[df_ (by rw[q6]; omega),q6]
   simp
variable {w0:World} {X:Nat→Prop} {Pr0:Nat→Nat→Prop} {γ0 γ:Nat→Option G} {σ:St} {Pr:Nat→Nat→Prop} {a:Act} {w:World}
theorem At.norm (h:At w0 X Pr0 γ0 σ γ Pr a w) (live:List Nat) : ∃ γ',At w0 X Pr0 γ0 (norm live σ) γ' Pr a w:=by
 have hpre:=PD σ.res (sT live 0 σ.slots) (pF σ.n0)
 have hlen:σ.n0≤(lw σ.res (sT live 0 σ.slots) (pF σ.n0)).length:=by
  have:=hpre.length_le
  rwa[q6] at this
 obtain⟨γ',h1,h2,h3⟩:=h.inv.norm live
 refine⟨γ',h1,?_,h2,hlen⟩
 intro r hr
 have hr':r < σ.n0:=hr
 rw[←h.low r hr']
 apply h3
 obtain⟨t,ht⟩:=hpre
 rw[←ht,ci_ (by rw[q6]; exact hr')]
 exact Mz hr'
end
theorem UN (ops:Array Oper):(∀ p∈(bs_ ops.size).zip ops.toList,ops[p.1]? = some p.2)∧((bs_ ops.size).zip ops.toList).map (·.1)=bs_ ops.size:=by
 constructor
 ·intro p hp
  obtain⟨k,hk,rfl⟩:=dj_ hp
  rw[List.getElem_zip]
  simp only[List.getElem_range]
  rw[←dc_]
  exact as_ _
 ·exact List.map_fst_zip (by simp)
section
variable {P:Program} {E:cD}
def LQ (P:Program) (E:cD) (w0:World) (X:Nat→Prop) (k:Nat):Prop := ∀(I:ax) {R:Type} (K:St→Option R) (c:Code) (S:List Fr) (σ:St) (z:R),run E k I K c S σ=some z → ∀(Pr0:Nat→Nat→Prop) (γ0 γ:Nat→Option G) (Pr:Nat→Nat→Prop) (a:Act) (w:World) (Q:Exit→Act→World→Prop),
 At w0 X Pr0 γ0 σ γ Pr a w→(∀ σ' γ' Pr' a' w',K σ'=some z→At w0 X Pr0 γ0 σ' γ' Pr' a' w'→σ'.n0=σ.n0→Q .normal a' w'∧Q .ret a' w') → ∀ n,k≤n→c.wp P (cz P n S Q) a w
def So (P:Program) (E:cD) (w0:World) (X:Nat→Prop) (k:Nat):Prop := ∀(I:ax) {R:Type} (K:St→Option R) (S:List Fr) (σ:St) (z:R),uq (run E k) I K S σ=some z → ∀(Pr0:Nat→Nat→Prop) (γ0 γ:Nat→Option G) (Pr:Nat→Nat→Prop) (a:Act) (w:World) (Q:Exit→Act→World→Prop),
 At w0 X Pr0 γ0 σ γ Pr a w→(∀ σ' γ' Pr' a' w',K σ'=some z→At w0 X Pr0 γ0 σ' γ' Pr' a' w'→σ'.n0=σ.n0→Q .normal a' w'∧Q .ret a' w') → ∀ n,k≤n→cz P n S Q .normal a w
theorem EY {I:ax} {R:Type} {K:St→Option R} {c:Code} {S:List Fr} {σ:St}:run E 0 I K c S σ=none:=rfl
theorem oF {k:Nat} {I:ax} {R:Type} {K:St→Option R} {c:Code} {S:List Fr} {σ:St}:run E (k+1) I K c S σ=sU E (run E k) I K c S σ:=rfl
theorem UO {w0:World} {X:Nat→Prop} (k:Nat) (hR : ∀ j,j≤k→LQ P E w0 X j) : ∀ j,j≤k→So P E w0 X j:=by
 intro j
 induction j with
 | zero =>
  intro _ I R K S σ z h Pr0 γ0 γ Pr a w Q hA hQ n hn
  cases S with
  | nil=>exact(hQ σ γ Pr a w h hA rfl).1
  | cons f S=>cases f <;> (simp only[uq,EY] at h; cases h)
 | succ j ih =>
  intro hj I R K S σ z h Pr0 γ0 γ Pr a w Q hA hQ n hn
  cases S with
  | nil=>exact(hQ σ γ Pr a w h hA rfl).1
  | cons f S =>
   cases f with
   | seq b=>exact hR (j+1) hj I K b S σ z h Pr0 γ0 γ Pr a w Q hA hQ n hn
   | block id =>
    simp only[uq,oF,sU] at h
    exact ih (by omega) I K S σ z h Pr0 γ0 γ Pr a w Q hA hQ n (by omega)
   | loop b =>
    simp only[uq,oF,sU] at h
    obtain⟨m,rfl⟩ : ∃ m,n=m+1:=⟨n - 1,by omega⟩
    have:=hR j (by omega) I K b (.loop b :: S) σ z h Pr0 γ0 γ Pr a w Q hA hQ m (by omega)
    show b.wp P (Exit.then (Code.rounds P b (cz P (m+1) S Q) m) (cz P (m+1) S Q)) a w
    refine Code.wp_mono (fun e a w h => ?_) this
    cases e <;> first | exact w5 (fun _ _ _ h'=>dX (by omega) S h') (aq_ _) h | exact dX (by omega) S h
theorem aaw {w0:World} {X:Nat→Prop} (hm:P.follows .mixedOrders=true) (hE:fI P E) (k:Nat) (hC : ∀ j,j < k→kK (od w0 X) P E (eV E (run E j))) : ∀ j,j≤k→LQ P E w0 X j:=by
 intro j
 induction j using Nat.strongRecOn with
 | _ j ih =>
  intro hj I R K c S σ z h Pr0 γ0 γ Pr a w Q hA hQ n hn
  cases j with
  | zero=>rw[EY] at h; cases h
  | succ j =>
   have hpop:So P E w0 X j:=UO j (fun i hi=>ih i (by omega) (by omega)) j (aq_ _)
   have hrun:LQ P E w0 X j:=ih j (by omega) (by omega)
   rw[oF] at h
   unfold sU at h
   split at h
   ·exact wp_skip (hpop I K S σ z h Pr0 γ0 γ Pr a w Q hA hQ n (by omega))
   ·rename_i id ops draw
    dsimp only at h
    have hE':fI P {E with sub:=I.sub}:=⟨hE.ty,hE.by_,hE.fns,hE.eqs⟩
    have hC' : ∀ j,j < k→kK (od w0 X) P {E with sub:=I.sub} (eV E (run E j)):=hC
    obtain⟨σ1,γ1,hA1,hn0,h1⟩ : ∃ σ1 γ1,At w0 X Pr0 γ0 σ1 γ1 Pr a w∧σ1.n0=σ.n0∧cK {E with sub:=I.sub} (eV E (run E j)) ops draw σ1.nx ((bs_ ops.size).zip ops.toList) [] σ1 (fun σ'=>uq (run E j) I K S {σ' with nx:=σ1.nx+64*ops.size})=some z:=by
     split at h
     ·rename_i l hl
      obtain⟨γ',hA'⟩:=hA.norm l
      exact⟨norm l σ,γ',hA',rfl,h⟩
     ·exact⟨σ,γ,hA,rfl,h⟩
    have hfin : ∀(σ':St) (γ':Nat→Option G) (Pr':Nat→Nat→Prop) (a':Act) (w':World),uq (run E j) I K S {σ' with nx:=σ1.nx+64*ops.size}=some z→bF w0 X Pr0 σ'.slots (aL σ'.res) γ' Pr' a' w'→(∀ r,r < σ1.nx→γ' r=γ1 r)→(∀ r,σ1.nx+64*ops.size≤r→γ' r=none)→σ'.n0=σ1.n0→σ'.nx=σ1.nx→cz P n S Q .normal a' w':=by
     intro σ' γ' Pr' a' w' h2 h3 h4 h5 h6 h7
     refine hpop I K S _ z h2 Pr0 γ0 γ' Pr' a' w' Q ⟨h3,?_,h5,?_⟩ (fun σ2 γ2 Pr2 a2 w2 h8 h9 h10=>hQ σ2 γ2 Pr2 a2 w2 h8 h9 ?_) n (by omega)
     ·intro r hr
      have hr':r < σ1.n0:=by rw[←h6]; exact hr
      rw[h4 r (cl_ hr' hA1.le)]
      exact hA1.low r hr'
     ·have:=hA1.le
      show σ'.n0≤σ1.nx+64*ops.size
      omega
     ·exact h10.trans (h6.trans hn0)
    cases draw with
    | false =>
     refine wp_region ?_
     have hz:=UN ops
     rw[←hz.2]
     refine Xb (γ0:=γ1) (hC' j (by omega)) hE' h1 hz.1 (by rw[hz.2]; exact List.nodup_range) hA1.inv (fun p hp r h2 h3=>hA1.high r (by omega)) (fun r hr=>rfl) (fun p hp=>(ca_.1 (hz.1 p hp)).1) (fun r hr=>hA1.high r (by omega)) ?_
     intro σ' γ' Pr' a' w' h2 h3 h4 h5 h6 h7
     exact hfin σ' γ' Pr' a' w' h2 h3 h4 h5 h6 h7
    | true=>exact Xe hm (hC' j (by omega)) hE' (γ0:=γ1) h1 hA1.inv (fun r hr=>rfl) hA1.high hfin
   ·rename_i x y
    refine wp_seq ?_
    exact hrun I K x (.seq y :: S) σ z h Pr0 γ0 γ Pr a w Q hA hQ n (by omega)
   ·rename_i cnd x y
    split at h
    ·rename_i b hb
     have hev:=LP hA.inv.slots cnd
     rw[hb] at hev
     have hbv:=iG hev
     split at h
     ·rename_i hbt
      rw[show b=true from hbt] at hbv
      exact wp_cond_true hbv (hrun I K x S σ z h Pr0 γ0 γ Pr a w Q hA hQ n (by omega))
     ·rename_i hbf
      have hbf':b=false:=by
       cases hh:(b:Bool) with
       | true=>exact bk_ hh hbf
       | false=>rfl
      rw[hbf'] at hbv
      exact wp_cond_false hbv (hrun I K y S σ z h Pr0 γ0 γ Pr a w Q hA hQ n (by omega))
    ·cases h
   ·rename_i id x
    refine wp_block ?_
    exact hrun I K x (.block id :: S) σ z h Pr0 γ0 γ Pr a w Q hA hQ n (by omega)
   ·rename_i x
    refine wp_loop_rounds (n+1) ?_
    exact hrun I K x (.loop x :: S) σ z h Pr0 γ0 γ Pr a w Q hA hQ n (by omega)
   ·rename_i id
    split at h
    ·rename_i S' hS'
     cases j with
     | zero=>rw[EY] at h; cases h
     | succ j =>
      have hpop':So P E w0 X j:=UO j (fun i hi=>ih i (by omega) (by omega)) j (aq_ _)
      rw[oF] at h
      simp only[sU] at h
      exact wp_exit (mO (I:=I) S hS' (hpop' I K S' σ z h Pr0 γ0 γ Pr a w Q hA hQ n (by omega)))
    ·cases h
   ·exact wp_ret (oe S (hQ σ γ Pr a w h hA rfl).2)
   ·cases h
end
end Go.Proofs.YthbkdfcmjmmpgaaGreatDoor.Abs
namespace Go.Proofs.YthbkdfcmjmmpgaaGreatDoor.Abs
open Go Go.RowKit
def pU (γ γr:Nat→Option G) (ro:List Nat) (n:Nat):Prop := ∀(i r:Nat),ro[i]? = some r→γr (n+i)=γ r
theorem pU.left {γ γr:Nat→Option G} {a b:List Nat} {n:Nat} (h:pU γ γr (a++b) n):pU γ γr a n:=fun i r hr=>h i r (by
 rw[ci_ (ax_.1 hr).1]
 exact hr)
theorem pU.right {γ γr:Nat→Option G} {a b:List Nat} {n:Nat} (h:pU γ γr (a++b) n):pU γ γr b (n+a.length):=fun i r hr=>by
 have:=h (a.length+i) r (by
  rw[df_ (by omega)]
  simpa using hr)
 rwa[←dh_] at this
section
variable {L:Lk} {γ γr:Nat→Option G} {res:aM} {fr:List Nat}
theorem MA {t:Ty} {v:SV} {x:t.den} (h:fY res (.val t) v=some x):cW res 9 t v=some x:=by
 cases v <;> exact h
theorem ux {e:TypeId} {t:Ty} {b:Bool} {v:SV} {x:List t.den} (h:fY res (.row e t b) v=some x) : ∃ r,v = .row r∧aL res r=some (.row e t x b):=by
 cases v <;> first | (cases h; done) | skip
 rename_i r
 have h':(match aL res r with
  | some (.row e' s xs fr')=>match (b == fr') with
   | true=>iB? (t := .slice e' s) (.slice e t) xs
   | false=>none
  | _=>none)=some x:=h
 split at h'
 ·rename_i e' s xs fr' hg
  split at h'
  ·rename_i hb
   obtain⟨he,hx⟩:=jm h'
   cases he
   have hx:xs=x:=hx
   subst hx
   have:b=fr':=by simpa using hb
   subst this
   exact⟨r,rfl,hg⟩
  ·cases h'
 ·cases h'
theorem pV {s:Sh} {v:SV} {x:s.den} (h:fY res (.strct s) v=some x) : ∃ l,v = .strct l∧fY.go res s l=some x:=by
 cases v <;> first | (cases h; done) | skip
 rename_i l
 exact⟨l,rfl,h⟩
theorem kA {a b:Sh} {l:List SV} {x:(Sh.pair a b).den} (h:fY.go res (.pair a b) l=some x) : ∃ v l',l=v :: l'∧fY res a v=some x.1∧fY.go res b l'=some x.2:=by
 cases l with
 | nil=>cases h
 | cons v l =>
  have h':((fY res a v).bind fun x=>(fY.go res b l).bind fun y=>some (x,y))=some x:=h
  rw[am_] at h'
  obtain⟨x1,h1,h'⟩:=h'
  rw[am_] at h'
  obtain⟨x2,h2,h'⟩:=h'
  cases h'
  exact⟨v,l,rfl,h1,h2⟩
theorem BN {l:List SV} {x:Sh.unit.den} (h:fY.go res .unit l=some x):l=[]:=by
 cases l with
 | nil=>rfl
 | cons v l=>cases h
theorem gJ (hR:iH L γ res (fun r=>r∈fr)) (hT:pJ γ res) : ∀(s:Sh),(∀(t0:Ty) (v:SV) (cs:List Value) (x:s.den) (n:Nat),RT L γ t0 v cs→fY res s v=some x→(∀ r∈eQ s v,r∈fr)→pU γ γr (aN s v) n → ∃ t,zn s=some t∧RT L γr t (aO s x n).1 cs) ∧
  (∀(t0:Ty) (l:List SV) (cs:List Value) (x:s.den) (n:Nat),gn L γ t0 l cs→fY.go res s l=some x→(∀ r∈eQ.go s l,r∈fr)→pU γ γr (aN.go s l) n → ∃ t,zn.go s=some t∧gn L γr t (aO.go s x n).1 cs)
 | .val t=>⟨fun t0 v cs x n hv h hf hn=>by
   have hk:=ur hR 9 9 (aq_ _) (by
    intro r hr
    exact hf r (by cases v <;> exact hr)) hv (MA h)
   exact⟨t,rfl,.val hk⟩,fun t0 l cs x n hv h hf hn=>by cases l <;> cases h⟩
 | .row e t b=>⟨fun t0 v cs x n hv h hf hn=>by
   obtain⟨r,rfl,hg⟩:=ux h
   cases hv with
   | row hγ =>
    obtain⟨v',hv'⟩:=hT r e t x (.inl ⟨b,hg⟩)
    rw[hγ] at hv'
    cases hv'
    refine⟨_,rfl,RT.row ?_⟩
    have:=hn 0 r rfl
    rw[ea_] at this
    rw[this]
    exact hγ,fun t0 l cs x n hv h hf hn=>by cases l <;> cases h⟩
 | .unit=>⟨(fun t0 v cs x n hv h hf hn=>by cases v <;> cases h),fun t0 l cs x n hv h hf hn=>by
   have:=BN h
   subst this
   cases hv
   exact⟨.unit,rfl,.nil⟩⟩
 | .ptr t=>⟨(fun t0 v cs x n hv h hf hn=>by cases v <;> cases h),fun t0 l cs x n hv h hf hn=>by cases l <;> cases h⟩
 | .strct s=>⟨fun t0 v cs x n hv h hf hn=>by
   obtain⟨l,rfl,h'⟩:=pV h
   cases hv with
   | strct hl =>
    obtain⟨t,h1,h2⟩:=(gJ hR hT s).2 _ l cs x n hl h' hf hn
    refine⟨.agg t,?_,.strct h2⟩
    show(zn.go s).map Ty.agg=_
    rw[h1]
    rfl,fun t0 l cs x n hv h hf hn=>by cases l <;> cases h⟩
 | .pair a b=>⟨(fun t0 v cs x n hv h hf hn=>by cases v <;> cases h),fun t0 l cs x n hv h hf hn=>by
   obtain⟨v,l',rfl,h1,h2⟩:=kA h
   cases hv with
   | cons hv hk =>
    have hro:aN.go (.pair a b) (v :: l')=aN a v++aN.go b l':=rfl
    rw[hro] at hn
    have hc:=(give_count a).1 v x.1 n h1
    obtain⟨t1,h3,h4⟩:=(gJ hR hT a).1 _ v _ x.1 n hv h1 (fun r hr=>hf r (cz_ _ hr)) hn.left
    obtain⟨t2,h5,h6⟩:=(gJ hR hT b).2 _ l' _ x.2 (aO a x.1 n).2.2 hk h2 (fun r hr=>hf r (cq_ _ hr)) (by rw[hc]; exact hn.right)
    refine⟨.pair t1 t2,?_,.cons h4 h6⟩
    show((zn a).bind fun t=>(zn.go b).map fun u=>Ty.pair t u)=_
    rw[h3,h5]
    rfl⟩
where
 give_count : ∀(s:Sh),(∀(v:SV) (x:s.den) (n:Nat),fY res s v=some x→(aO s x n).2.2=n+(aN s v).length)∧(∀(l:List SV) (x:s.den) (n:Nat),fY.go res s l=some x→(aO.go s x n).2.2=n+(aN.go s l).length)
  | .val t=>⟨fun v x n h=>by cases v <;> rfl,fun l x n h=>by cases l <;> cases h⟩
  | .row e t b=>⟨fun v x n h=>by
    obtain⟨r,rfl,hg⟩:=ux h
    rfl,fun l x n h=>by cases l <;> cases h⟩
  | .unit=>⟨(fun v x n h=>by cases v <;> cases h),fun l x n h=>by
    have:=BN h
    subst this
    rfl⟩
  | .ptr t=>⟨(fun v x n h=>by cases v <;> cases h),fun l x n h=>by cases l <;> cases h⟩
  | .strct s=>⟨fun v x n h=>by
    obtain⟨l,rfl,h'⟩:=pV h
    exact(give_count s).2 l x n h',fun l x n h=>by cases l <;> cases h⟩
  | .pair a b=>⟨(fun v x n h=>by cases v <;> cases h),fun l x n h=>by
    obtain⟨v,l',rfl,h1,h2⟩:=kA h
    show(aO.go b x.2 (aO a x.1 n).2.2).2.2=n+(aN a v++aN.go b l').length
    rw[(give_count b).2 l' x.2 _ h2,(give_count a).1 v x.1 n h1,ae_]
    omega⟩
theorem Dq (hR:iH L γ res (fun r=>r∈fr)) (hT:pJ γ res) {s:Sh} {v:SV} {u:Value} {x:s.den} {n:Nat} (hv:RV L γ v u) (h:fY res s v=some x) (hf : ∀ r∈eQ s v,r∈fr) (hn:pU γ γr (aN s v) n):RV L γr (aO s x n).1 u:=by
 cases s with
 | val t =>
  obtain⟨cs,rfl,hk⟩:=gW hR (d':=9) (aq_ _) (by
   intro r hr
   exact hf r (by cases v <;> exact hr)) hv (MA h)
  exact .val hk
 | row e t b =>
  obtain⟨r,rfl,hg⟩:=ux h
  cases hv with
  | row hγ =>
   have:=hn 0 r rfl
   rw[ea_] at this
   exact .row (this.trans hγ)
 | unit=>cases v <;> cases h
 | ptr t=>cases v <;> cases h
 | pair a b=>cases v <;> cases h
 | strct s =>
  obtain⟨l,rfl,h'⟩:=pV h
  cases hv with
  | strct hl =>
   obtain⟨t,h1,h2⟩:=(gJ hR hT s).2 _ l _ x n hl h' hf hn
   exact .strct h2
theorem sk : ∀(s:Sh),(∀(v:SV) (x:s.den) (n:Nat),fY res s v=some x → ∀ p∈(aO s x n).2.1,∃(i r:Nat) (e:TypeId) (t:Ty) (xs:List t.den) (b:Bool),p=(n+i,some (.row e t xs b))∧(aN s v)[i]? = some r∧aL res r=some (.row e t xs b)) ∧
  (∀(l:List SV) (x:s.den) (n:Nat),fY.go res s l=some x → ∀ p∈(aO.go s x n).2.1,∃(i r:Nat) (e:TypeId) (t:Ty) (xs:List t.den) (b:Bool),p=(n+i,some (.row e t xs b))∧(aN.go s l)[i]? = some r∧aL res r=some (.row e t xs b))
 | .val t=>⟨fun v x n h p hp=>by simp[aO] at hp,fun l x n h=>by cases l <;> cases h⟩
 | .row e t b=>⟨fun v x n h p hp=>by
   obtain⟨r,rfl,hg⟩:=ux h
   simp only[aO,bh_] at hp
   exact⟨0,r,e,t,x,b,hp,rfl,hg⟩,fun l x n h=>by cases l <;> cases h⟩
 | .unit=>⟨(fun v x n h=>by cases v <;> cases h),fun l x n h p hp=>by simp[aO.go] at hp⟩
 | .ptr t=>⟨(fun v x n h p hp=>by cases v <;> cases h),fun l x n h=>by cases l <;> cases h⟩
 | .strct s=>⟨fun v x n h p hp=>by
   obtain⟨l,rfl,h'⟩:=pV h
   exact(sk s).2 l x n h' p hp,fun l x n h=>by cases l <;> cases h⟩
 | .pair a b=>⟨(fun v x n h=>by cases v <;> cases h),fun l x n h p hp=>by
   obtain⟨v,l',rfl,h1,h2⟩:=kA h
   have hp':p∈(aO a x.1 n).2.1++(aO.go b x.2 (aO a x.1 n).2.2).2.1:=hp
   have hro:aN.go (.pair a b) (v :: l')=aN a v++aN.go b l':=rfl
   rw[hro]
   rcases bo_.1 hp' with hp | hp
   ·obtain⟨i,r,e,t,xs,b',h3,h4,h5⟩:=(sk a).1 v x.1 n h1 p hp
    exact⟨i,r,e,t,xs,b',h3,by rw[ci_ (ax_.1 h4).1]; exact h4,h5⟩
   ·obtain⟨i,r,e,t,xs,b',h3,h4,h5⟩:=(sk b).2 l' x.2 _ h2 p hp
    have hc:=(gJ.give_count a).1 v x.1 n h1
    refine⟨(aN a v).length+i,r,e,t,xs,b',?_,?_,h5⟩
    ·rw[h3,hc,dh_]
    ·rw[df_ (by omega)]
     simpa using h4⟩
variable {n0:Nat}
theorem vR {t:Ty} {v:SV} {x:t.den} (h:rK n0 res (.ptr t) v=some x) : ∃ r c,v = .ptr r t []∧n0≤r∧aL res r=some (.box t c)∧cW [] 9 t c=some x:=by
 unfold rK at h
 cases v <;> first | (cases h; done) | skip
 rename_i r s p
 cases p with
 | cons _ _=>cases h
 | nil =>
  simp only at h
  split at h
  ·rename_i t' c hb hg
   split at h
   ·rename_i hs
    split at h
    ·rename_i ht
     subst hs
     subst ht
     exact⟨r,c,rfl,Nat.le_of_ble_eq_true hb,hg,h⟩
    ·cases h
   ·cases h
  ·cases h
theorem nL {a b:Sh} {l:List SV} {x:(Sh.pair a b).den} (h:lY n0 res (.pair a b) l=some x) : ∃ v l',l=v :: l'∧rK n0 res a v=some x.1∧lY n0 res b l'=some x.2:=by
 cases l with
 | nil=>cases h
 | cons v l =>
  have h':((rK n0 res a v).bind fun x=>(lY n0 res b l).bind fun y=>some (x,y))=some x:=h
  rw[am_] at h'
  obtain⟨x1,h1,h'⟩:=h'
  rw[am_] at h'
  obtain⟨x2,h2,h'⟩:=h'
  cases h'
  exact⟨v,l,rfl,h1,h2⟩
theorem rN {l:List SV} {x:Sh.unit.den} (h:lY n0 res .unit l=some x):l=[]:=by
 cases l with
 | nil=>rfl
 | cons v l=>cases h
theorem BO : ∀(s:Sh) (v:SV) (x:s.den) (n:Nat),rK n0 res s v=some x→(aO s x n).2.2=n+(aN s v).length:=by
 intro s v x n h
 cases s with
 | val t=>exact(gJ.give_count (res:=res) (.val t)).1 v x n h
 | row e t b=>exact(gJ.give_count (res:=res) (.row e t b)).1 v x n h
 | strct s=>exact(gJ.give_count (res:=res) (.strct s)).1 v x n h
 | pair a b =>
  have h':fY res (.pair a b) v=some x:=h
  cases v <;> cases h'
 | unit=>cases v <;> rfl
 | ptr t =>
  obtain⟨r,c,rfl,_⟩:=vR h
  rfl
theorem Ge : ∀(s:Sh) (l:List SV) (x:s.den) (n:Nat),lY n0 res s l=some x→(aO.go s x n).2.2=n+(aN.go s l).length
 | .val t,l,x,n,h=>by cases l <;> cases h
 | .row e t b,l,x,n,h=>by cases l <;> cases h
 | .strct s,l,x,n,h=>by cases l <;> cases h
 | .ptr t,l,x,n,h=>by cases l <;> cases h
 | .unit,l,x,n,h=>by
  have:=rN h
  subst this
  rfl
 | .pair a b,l,x,n,h=>by
  obtain⟨v,l',rfl,h1,h2⟩:=nL h
  show(aO.go b x.2 (aO a x.1 n).2.2).2.2=n+(aN a v++aN.go b l').length
  rw[Ge b l' x.2 _ h2,BO a v x.1 n h1,ae_]
  omega
theorem aax (hR:iH L γ res (fun r=>r∈fr)) (hT:pJ γ res) {s:Sh} {v:SV} {u:Value} {x:s.den} {n:Nat} (hv:RV L γ v u) (h:rK n0 res s v=some x) (hf : ∀ r∈eQ s v,r∈fr) (hn:pU γ γr (aN s v) n):RV L γr (aO s x n).1 u:=by
 cases s with
 | val t=>exact Dq hR hT hv (s := .val t) h hf hn
 | row e t b=>exact Dq hR hT hv (s := .row e t b) h hf hn
 | strct s=>exact Dq hR hT hv (s := .strct s) h hf hn
 | pair a b=>exact Dq hR hT hv (s := .pair a b) h hf hn
 | unit=>exact .undef
 | ptr t =>
  obtain⟨r,c,rfl,_⟩:=vR h
  cases hv with
  | ptr hk hp =>
   have h1:=hn 0 r rfl
   rw[ea_] at h1
   exact .ptr (h1.trans hk) hp
theorem MB (hR:iH L γ res (fun r=>r∈fr)) (hT:pJ γ res) : ∀(s:Sh) (l:List SV) (us:List Value) (x:s.den) (n:Nat),cw L γ l us→lY n0 res s l=some x→(∀ r∈eQ.go s l,r∈fr)→pU γ γr (aN.go s l) n→cw L γr (aO.go s x n).1 us
 | .val t,l,us,x,n,hv,h,hf,hn=>by cases l <;> cases h
 | .row e t b,l,us,x,n,hv,h,hf,hn=>by cases l <;> cases h
 | .strct s,l,us,x,n,hv,h,hf,hn=>by cases l <;> cases h
 | .ptr t,l,us,x,n,hv,h,hf,hn=>by cases l <;> cases h
 | .unit,l,us,x,n,hv,h,hf,hn=>by
  have:=rN h
  subst this
  cases hv
  exact .nil
 | .pair a b,l,us,x,n,hv,h,hf,hn=>by
  obtain⟨v,l',rfl,h1,h2⟩:=nL h
  cases hv with
  | cons hv hk =>
   have hro:aN.go (.pair a b) (v :: l')=aN a v++aN.go b l':=rfl
   rw[hro] at hn
   have hc:=BO a v x.1 n h1
   exact .cons (aax hR hT hv h1 (fun r hr=>hf r (cz_ _ hr)) hn.left)
    (MB hR hT b l' _ x.2 (aO a x.1 n).2.2 hk h2 (fun r hr=>hf r (cq_ _ hr)) (by rw[hc]; exact hn.right))
def rO (n0:Nat) (res:aM) (r:Nat) (y:bh):Prop:=(∃(e:TypeId) (t:Ty) (xs:List t.den) (b:Bool),y = .row e t xs b∧aL res r=some y) ∨ ∃(t:Ty) (c:SV) (x:t.den),y = .box t (hY (.val t x))∧n0≤r∧aL res r=some (.box t c)∧cW [] 9 t c=some x
theorem rO.old {r:Nat} {y:bh} (h:rO n0 res r y) : ∃ y0,aL res r=some y0∧(∀(γ:Nat→Option G) r,bv γ r y0=bv γ r y) ∧ ∀ o,jl y0 o→jl y o:=by
 rcases h with⟨e,t,xs,b,rfl,hg⟩ | ⟨t,c,x,rfl,_,hg,_⟩
 ·exact⟨_,hg,fun _ _=>rfl,fun _ h=>h⟩
 ·exact⟨_,hg,fun _ _=>rfl,fun _ h=>h⟩
theorem Xf : ∀(s:Sh) (v:SV) (x:s.den) (n:Nat),rK n0 res s v=some x→(∀ p∈(aO s x n).2.1,∃(i r:Nat) (y:bh),p=(n+i,some y)∧(aN s v)[i]? = some r∧rO n0 res r y):=by
 intro s v x n h p hp
 have old:(fY res s v=some x) → ∃(i r:Nat) (y:bh),p=(n+i,some y)∧(aN s v)[i]? = some r∧rO n0 res r y:=fun h=>by
  obtain⟨i,r,e,t,xs,b,h1,h2,h3⟩:=(sk s).1 v x n h p hp
  exact⟨i,r,_,h1,h2,.inl ⟨e,t,xs,b,rfl,h3⟩⟩
 cases s with
 | val t=>exact old h
 | row e t b=>exact old h
 | strct s=>exact old h
 | pair a b=>exact old h
 | unit=>simp[aO] at hp
 | ptr t =>
  obtain⟨r,c,rfl,h1,h2,h3⟩:=vR h
  simp only[aO,bh_] at hp
  exact⟨0,r,_,hp,rfl,.inr ⟨t,c,x,rfl,h1,h2,h3⟩⟩
theorem JL : ∀(s:Sh) (l:List SV) (x:s.den) (n:Nat),lY n0 res s l=some x → ∀ p∈(aO.go s x n).2.1,∃(i r:Nat) (y:bh),p=(n+i,some y)∧(aN.go s l)[i]? = some r∧rO n0 res r y
 | .val t,l,x,n,h=>by cases l <;> cases h
 | .row e t b,l,x,n,h=>by cases l <;> cases h
 | .strct s,l,x,n,h=>by cases l <;> cases h
 | .ptr t,l,x,n,h=>by cases l <;> cases h
 | .unit,l,x,n,h=>fun p hp=>by simp[aO.go] at hp
 | .pair a b,l,x,n,h=>fun p hp=>by
  obtain⟨v,l',rfl,h1,h2⟩:=nL h
  have hp':p∈(aO a x.1 n).2.1++(aO.go b x.2 (aO a x.1 n).2.2).2.1:=hp
  have hro:aN.go (.pair a b) (v :: l')=aN a v++aN.go b l':=rfl
  rw[hro]
  rcases bo_.1 hp' with hp | hp
  ·obtain⟨i,r,y,h3,h4,h5⟩:=Xf a v x.1 n h1 p hp
   exact⟨i,r,y,h3,by rw[ci_ (ax_.1 h4).1]; exact h4,h5⟩
  ·obtain⟨i,r,y,h3,h4,h5⟩:=JL b l' x.2 _ h2 p hp
   have hc:=BO a v x.1 n h1
   refine⟨(aN a v).length+i,r,y,?_,?_,h5⟩
   ·rw[h3,hc,dh_]
   ·rw[df_ (by omega)]
    simpa using h4
end
end Go.Proofs.YthbkdfcmjmmpgaaGreatDoor.Abs
namespace Go.Proofs.YthbkdfcmjmmpgaaGreatDoor.Abs
open Go Go.RowKit
section
variable {L:Lk} {γ γr:Nat→Option G} {res:aM} {fr:List Nat}
theorem aay {n0:Nat} {s:Sh} {v:SV} {x:s.den} (h:rK n0 res s v=some x):v ≠ .undef:=by
 rintro rfl
 cases s <;> first | (cases h; done) | skip
theorem QP {n0:Nat} : ∀ {s:Sh} {l:List SV} {x:s.den},lY n0 res s l=some x → ∀ v∈l,v ≠ .undef
 | .val t,l,x,h=>by cases l <;> cases h
 | .row e t b,l,x,h=>by cases l <;> cases h
 | .strct s,l,x,h=>by cases l <;> cases h
 | .ptr t,l,x,h=>by cases l <;> cases h
 | .unit,l,x,h=>by
  have:=rN h
  subst this
  intro v hv
  simp at hv
 | .pair a b,l,x,h=>by
  obtain⟨v,l',rfl,h1,h2⟩:=nL h
  intro u hu
  rcases bb_.1 hu with rfl | hu
  ·exact aay h1
  ·exact QP h2 u hu
theorem uy : ∀(s:Sh),(∀(v:SV) (x:s.den),fY res s v=some x → ∀ r∈aN s v,∃(e:TypeId) (t:Ty) (xs:List t.den) (b:Bool),aL res r=some (.row e t xs b)) ∧
  (∀(l:List SV) (x:s.den),fY.go res s l=some x → ∀ r∈aN.go s l,∃(e:TypeId) (t:Ty) (xs:List t.den) (b:Bool),aL res r=some (.row e t xs b))
 | .val t=>⟨fun v x h r hr=>by cases v <;> simp[aN] at hr,fun l x h=>by cases l <;> cases h⟩
 | .row e t b=>⟨fun v x h r hr=>by
   obtain⟨r',rfl,hg⟩:=ux h
   have:r=r':=by simpa[aN] using hr
   subst this
   exact⟨e,t,x,b,hg⟩,fun l x h=>by cases l <;> cases h⟩
 | .unit=>⟨fun v x h=>(by cases v <;> cases h),fun l x h r hr=>by
   have:=BN h
   subst this
   simp[aN.go] at hr⟩
 | .ptr t=>⟨fun v x h=>(by cases v <;> cases h),fun l x h=>by cases l <;> cases h⟩
 | .strct s=>⟨fun v x h=>by
   obtain⟨l,rfl,h'⟩:=pV h
   exact(uy s).2 l x h',fun l x h=>by cases l <;> cases h⟩
 | .pair a b=>⟨fun v x h=>(by cases v <;> cases h),fun l x h r hr=>by
   obtain⟨v,l',rfl,h1,h2⟩:=kA h
   have hr':r∈aN a v++aN.go b l':=hr
   rcases bo_.1 hr' with hr | hr
   ·exact(uy a).1 v x.1 h1 r hr
   ·exact(uy b).2 l' x.2 h2 r hr⟩
theorem Zm {n0:Nat} : ∀(s:Sh) (v:SV) (x:s.den),rK n0 res s v=some x → ∀ r∈aN s v,∃ y,rO n0 res r y:=by
 intro s v x h r hr
 have old:fY res s v=some x → ∃ y,rO n0 res r y:=fun h=>by
  obtain⟨e,t,xs,b,hg⟩:=(uy s).1 v x h r hr
  exact⟨_,.inl ⟨e,t,xs,b,rfl,hg⟩⟩
 cases s with
 | val t=>exact old h
 | row e t b=>exact old h
 | strct s=>exact old h
 | pair a b=>exact old h
 | unit=>cases v <;> simp[aN] at hr
 | ptr t =>
  obtain⟨r',c,rfl,h1,h2,h3⟩:=vR h
  have:r=r':=by simpa[aN] using hr
  subst this
  exact⟨_,.inr ⟨t,c,x,rfl,h1,h2,h3⟩⟩
theorem MC {n0:Nat} : ∀(s:Sh) (l:List SV) (x:s.den),lY n0 res s l=some x → ∀ r∈aN.go s l,∃ y,rO n0 res r y
 | .val t,l,x,h=>by cases l <;> cases h
 | .row e t b,l,x,h=>by cases l <;> cases h
 | .strct s,l,x,h=>by cases l <;> cases h
 | .ptr t,l,x,h=>by cases l <;> cases h
 | .unit,l,x,h=>fun r hr=>by
  have:=rN h
  subst this
  simp[aN.go] at hr
 | .pair a b,l,x,h=>fun r hr=>by
  obtain⟨v,l',rfl,h1,h2⟩:=nL h
  have hr':r∈aN a v++aN.go b l':=hr
  rcases bo_.1 hr' with hr | hr
  ·exact Zm a v x.1 h1 r hr
  ·exact MC b l' x.2 h2 r hr
theorem sn {rb:Bool} (hR:iH L γ res (fun r=>r∈fr)) (hT:pJ γ res) : ∀(tab:aM) (s:Sh) (cs:List SV) (y:s.den) (n:Nat) (ub:List (Option bh)),mJ rb res tab=some cs→fY.go res s cs=some y→cB rb tab (aO.go s y n).1 (rJ s)=some ub →
  (∀ r∈eQ.go s cs,r∈fr)→pU γ γr (aN.go s cs) n → ∀(j:Nat) (t:Ty) (c':SV),ub[j]? = some (some (.box t c')) → ∃(key:Nat) (c c0:SV),tab[j]? = some (key,.box t c0)∧aL res key=some (.box t c) ∧ ∀ cells,RT L γ t c cells→RT L γr t c' cells
 | [],s,cs,y,n,ub,_,_,hb,_,_,j,t,c',hj=>by
  have:=(jK hb).1
  rw[ce_ this] at hj
  simp at hj
 | (k,.row e t0 xs fr0) :: l,s,cs,y,n,ub,hbx,ho,hb,hf,hn,j,t,c',hj=>by
  cases rb with
  | false =>
   unfold cB at hb
   simp only[am_,bg_] at hb
   obtain⟨u',h1,rfl⟩:=hb
   have hbx':mJ false res l=some cs:=hbx
   cases j with
   | zero=>simp at hj
   | succ j =>
    obtain⟨key,c,c0,h2,h3,h4⟩:=sn hR hT l s cs y n u' hbx' ho h1 hf hn j t c' (by simpa using hj)
    exact⟨key,c,c0,by simpa using h2,h3,h4⟩
  | true =>
   unfold mJ at hbx
   simp only[am_,bg_] at hbx
   obtain⟨cs',h1,rfl⟩:=hbx
   cases s with
   | val _=>cases ho
   | row _ _ _=>cases ho
   | strct _=>cases ho
   | ptr _=>cases ho
   | unit=>cases ho
   | pair a b =>
    obtain⟨v,l',he,h2,h3⟩:=kA ho
    cases he
    have hro:aN.go (.pair a b) (.row k :: cs')=aN a (.row k)++aN.go b cs':=rfl
    rw[hro] at hn
    have hc:=(gJ.give_count a).1 (.row k) y.1 n h2
    have hmk:(aO.go (.pair a b) y n).1=(aO a y.1 n).1 :: (aO.go b y.2 (aO a y.1 n).2.2).1:=rfl
    rw[hmk] at hb
    have hst:rJ (.pair a b)=zn a :: rJ b:=rfl
    rw[hst] at hb
    unfold cB at hb
    simp only at hb
    split at hb
    ·rename_i m1 vs1 s1 ts1 hv1 hs1
     obtain⟨_,rfl⟩:=fx_ hv1
     obtain⟨_,rfl⟩:=fx_ hs1
     simp only[am_,bg_] at hb
     obtain⟨u',h4,rfl⟩:=hb
     cases j with
     | zero=>simp at hj
     | succ j =>
      obtain⟨key,c1,c2,h5,h6,h7⟩:=sn hR hT l b cs' y.2 (aO a y.1 n).2.2 u' h1 h3 h4 (fun r hr=>hf r (cq_ _ hr)) (by rw[hc]; exact hn.right) j t c' (by simpa using hj)
      exact⟨key,c1,c2,by simpa using h5,h6,h7⟩
    ·cases hb
 | (k,.old e t0 xs) :: l,s,cs,y,n,ub,hbx,ho,hb,hf,hn,j,t,c',hj=>by
  unfold cB at hb
  simp only[am_] at hb
  obtain⟨u',h1,he⟩:=hb
  cases he
  cases j with
  | zero=>simp at hj
  | succ j =>
   obtain⟨key,c,c0,h2,h3,h4⟩:=sn hR hT l s cs y n u' hbx ho h1 hf hn j t c' (by simpa using hj)
   exact⟨key,c,c0,by simpa using h2,h3,h4⟩
 | (k,.gone e t0 xs) :: l,s,cs,y,n,ub,hbx,ho,hb,hf,hn,j,t,c',hj=>by
  unfold cB at hb
  simp only[am_] at hb
  obtain⟨u',h1,he⟩:=hb
  cases he
  cases j with
  | zero=>simp at hj
  | succ j =>
   obtain⟨key,c,c0,h2,h3,h4⟩:=sn hR hT l s cs y n u' hbx ho h1 hf hn j t c' (by simpa using hj)
   exact⟨key,c,c0,by simpa using h2,h3,h4⟩
 | (k,.keepF g0 caps0) :: l,s,cs,y,n,ub,hbx,ho,hb,hf,hn,j,t,c',hj=>by
  unfold cB at hb
  simp only[am_] at hb
  obtain⟨u',h1,he⟩:=hb
  cases he
  cases j with
  | zero=>simp at hj
  | succ j =>
   obtain⟨key,c,c0,h2,h3,h4⟩:=sn hR hT l s cs y n u' hbx ho h1 hf hn j t c' (by simpa using hj)
   exact⟨key,c,c0,by simpa using h2,h3,h4⟩
 | (k,.rowP g0 caps0) :: l,s,cs,y,n,ub,hbx,ho,hb,hf,hn,j,t,c',hj=>by
  unfold cB at hb
  simp only[am_] at hb
  obtain⟨u',h1,he⟩:=hb
  cases he
  cases j with
  | zero=>simp at hj
  | succ j =>
   obtain⟨key,c,c0,h2,h3,h4⟩:=sn hR hT l s cs y n u' hbx ho h1 hf hn j t c' (by simpa using hj)
   exact⟨key,c,c0,by simpa using h2,h3,h4⟩
 | (k,.box t0 c0) :: l,s,cs,y,n,ub,hbx,ho,hb,hf,hn,j,t,c',hj=>by
  unfold mJ at hbx
  split at hbx
  ·rename_i t' c hg
   split at hbx
   ·rename_i htt
    subst htt
    rw[am_] at hbx
    obtain⟨cs',h1,he⟩:=hbx
    cases he
    cases s with
    | val _=>cases ho
    | row _ _ _=>cases ho
    | strct _=>cases ho
    | ptr _=>cases ho
    | unit=>cases ho
    | pair a b =>
     obtain⟨v,l',he,h2,h3⟩:=kA ho
     cases he
     have hro:aN.go (.pair a b) (c :: cs')=aN a c++aN.go b cs':=rfl
     rw[hro] at hn
     have hc:=(gJ.give_count a).1 c y.1 n h2
     have hmk:(aO.go (.pair a b) y n).1=(aO a y.1 n).1 :: (aO.go b y.2 (aO a y.1 n).2.2).1:=rfl
     rw[hmk] at hb
     have hst:rJ (.pair a b)=zn a :: rJ b:=rfl
     rw[hst] at hb
     unfold cB at hb
     split at hb
     ·rename_i v1 vs1 s1 ts1 hv1 hs1
      cases hv1
      obtain⟨hs2,rfl⟩:=fx_ hs1
      split at hb
      ·rename_i hs1t
       rw[am_] at hb
       obtain⟨u',h4,he⟩:=hb
       cases he
       cases j with
       | zero =>
        simp only[List.getElem?_cons_zero,bg_,bh.box.injEq] at hj
        obtain⟨rfl,rfl⟩:=hj
        refine⟨k,c,c0,rfl,hg,fun cells hcells => ?_⟩
        obtain⟨t2,h5,h6⟩:=(gJ hR hT a).1 _ c cells y.1 n hcells h2 (fun r hr=>hf r (cz_ _ hr)) hn.left
        rw[hs2] at h5
        cases h5
        rw[←hs1t]
        exact h6
       | succ j =>
        obtain⟨key,c1,c2,h5,h6,h7⟩:=sn hR hT l b cs' y.2 (aO a y.1 n).2.2 u' h1 h3 h4 (fun r hr=>hf r (cq_ _ hr)) (by rw[hc]; exact hn.right) j t c' (by simpa using hj)
        exact⟨key,c1,c2,by simpa using h5,h6,h7⟩
      ·cases hb
     ·cases hb
   ·cases hbx
  ·cases hbx
theorem pi {rb:Bool} : ∀(tab:aM) (s:Sh) (cs:List SV) (y:s.den) (n:Nat),mJ rb res tab=some cs→fY.go res s cs=some y→pU γ γr (aN.go s cs) n → ∀ p∈di rb tab (aO.go s y n).1,γr p.1=γ p.2
 | [],s,cs,y,n,_,_,_,p,hp=>by
  generalize (aO.go s y n).1=bs at hp
  cases bs <;> simp[di] at hp
 | (k,.box t0 c0) :: l,s,cs,y,n,hbx,ho,hn,p,hp=>by
  unfold mJ at hbx
  split at hbx
  ·split at hbx
   ·simp only[am_,bg_] at hbx
    obtain⟨cs',h1,rfl⟩:=hbx
    cases s with
    | val _=>cases ho
    | row _ _ _=>cases ho
    | strct _=>cases ho
    | ptr _=>cases ho
    | unit=>cases ho
    | pair a b =>
     obtain⟨v,l',he,h2,h3⟩:=kA ho
     cases he
     have hro : ∀ c,aN.go (.pair a b) (c :: cs')=aN a c++aN.go b cs':=fun _=>rfl
     rw[hro] at hn
     have hc:=(gJ.give_count a).1 _ y.1 n h2
     have hp':p∈di rb l (aO.go b y.2 (aO a y.1 n).2.2).1:=hp
     exact pi l b cs' y.2 _ h1 h3 (by rw[hc]; exact hn.right) p hp'
   ·cases hbx
  ·cases hbx
 | (k,.old e t0 xs) :: l,s,cs,y,n,hbx,ho,hn,p,hp=>pi l s cs y n hbx ho hn p (by unfold di at hp; exact hp)
 | (k,.gone e t0 xs) :: l,s,cs,y,n,hbx,ho,hn,p,hp=>pi l s cs y n hbx ho hn p (by unfold di at hp; exact hp)
 | (k,.keepF g0 caps0) :: l,s,cs,y,n,hbx,ho,hn,p,hp=>pi l s cs y n hbx ho hn p (by unfold di at hp; exact hp)
 | (k,.rowP g0 caps0) :: l,s,cs,y,n,hbx,ho,hn,p,hp=>pi l s cs y n hbx ho hn p (by unfold di at hp; exact hp)
 | (k,.row e t0 xs fr0) :: l,s,cs,y,n,hbx,ho,hn,p,hp=>by
  cases rb with
  | false =>
   have hbx':mJ false res l=some cs:=hbx
   exact pi l s cs y n hbx' ho hn p (by unfold di at hp; exact hp)
  | true =>
   unfold mJ at hbx
   simp only[am_,bg_] at hbx
   obtain⟨cs',h1,rfl⟩:=hbx
   cases s with
   | val _=>cases ho
   | row _ _ _=>cases ho
   | strct _=>cases ho
   | ptr _=>cases ho
   | unit=>cases ho
   | pair a b =>
    obtain⟨v,l',he,h2,h3⟩:=kA ho
    cases he
    have hro:aN.go (.pair a b) (.row k :: cs')=aN a (.row k)++aN.go b cs':=rfl
    rw[hro] at hn
    have hc:=(gJ.give_count a).1 (.row k) y.1 n h2
    have hmk:(aO.go (.pair a b) y n).1=(aO a y.1 n).1 :: (aO.go b y.2 (aO a y.1 n).2.2).1:=rfl
    rw[hmk] at hp
    unfold di at hp
    simp only at hp
    split at hp
    ·rename_i m vs hv
     obtain⟨hv1,rfl⟩:=fx_ hv
     rcases bb_.1 hp with rfl | hp
     ·cases a with
      | val t=>cases hv1
      | row e' t' fr' =>
       have hv2:SV.row n = .row m:=hv1
       cases hv2
       have:=hn.left 0 k rfl
       simpa using this
      | unit=>cases h2
      | pair _ _=>cases h2
      | strct _=>cases h2
      | ptr _=>cases h2
     ·exact pi l b cs' y.2 _ h1 h3 (by rw[hc]; exact hn.right) p hp
    ·simp at hp
theorem MD : ∀ {u:Up} {get:Nat→Option bh} {m:Nat} {y:bh},bG get u m=some y→(m,some y)∈u∨get m=some y
 | [],get,m,y,h => .inr h
 | (k,x) :: u,get,m,y,h=>by
  rcases MD (u:=u) (show bG (fun s=>if s=k then x else get s) u m=some y from h) with h2 | h2
  ·exact .inl (ar_ _ h2)
  ·by_cases hk:m=k
   ·rw[af_ hk] at h2
    subst hk
    rw[h2]
    exact .inl (by simp)
   ·rw[ad_ hk] at h2
    exact .inr h2
end
section
variable {P:Program} {E:cD} {w0:World} {X:Nat→Prop} {Pr0:Nat→Nat→Prop} {γ:Nat→Option G} {Pr:Nat→Nat→Prop} {a:Act} {w:World} {σ:St}
abbrev q7 (a:Act):ResultVar→Sem Value:=fun
 | .tmp t=>pure (a.tmps.getD t undef)
 | .cell c t=>do loadVar t (←asAddr (a.tmps.getD c undef))
theorem UP (hE:fI P E) (hI:bF w0 X Pr0 σ.slots (aL σ.res) γ Pr a w) (rv:ResultVar) (hne:given E σ rv ≠ .undef) : ∃ val,(q7 a rv).run P w = .ok val w∧RV (Ln Pr w) γ (given E σ rv) val:=by
 cases rv with
 | tmp t=>exact⟨_,rfl,LP hI.slots (.tmp t)⟩
 | cell c T =>
  have hev:=LP hI.slots (.tmp c)
  simp only[ev,Act.eval] at hev
  simp only[given] at hne ⊢
  split at hne
  ·rename_i r s path t hsl hT
   split at hne
   ·rename_i bt c' hg
    split at hne
    ·rename_i v hv
     split at hne
     ·rename_i hst
      subst hst
      rw[hsl] at hev
      obtain⟨cs,h1,h2⟩:=EQ (P:=P) hI hev hg (cb hE hT).2 hv
      refine⟨mk s cs,?_,?_⟩
      ·generalize hx:a.tmps.getD c undef=x at *
       cases hev with
       | ptr hb hp =>
        simp only[Instr.loadAt,Instr.sureAddr,bf_,bj_,av_] at h1
        simp only[q7,hx,asAddr,bf_,bj_,av_]
        exact h1
      ·simp only[hsl,hT,hg,hv,af_]
       exact Sg h2
     ·exact bk_ rfl hne
    ·exact bk_ rfl hne
   ·exact bk_ rfl hne
  ·exact bk_ rfl hne
theorem Gf (hE:fI P E) (hI:bF w0 X Pr0 σ.slots (aL σ.res) γ Pr a w) : ∀(l:List ResultVar),(∀ v∈l.map (given E σ),v ≠ .undef) → ∃ vals,(l.mapM (q7 a)).run P w = .ok vals w∧cw (Ln Pr w) γ (l.map (given E σ)) vals
 | [],_=>⟨[],by simp,.nil⟩
 | rv :: l,h=>by
  obtain⟨val,h1,h2⟩:=UP hE hI rv (h _ (by simp))
  obtain⟨vals,h3,h4⟩:=Gf hE hI l (fun v hv=>h v (by rw[cs_]; exact ar_ _ hv))
  refine⟨val :: vals,?_,.cons h2 h4⟩
  simp only[List.mapM_cons,bf_,h1,av_,h3,bj_]
theorem PE {fn:Func} {vals:List Value} (h:(fn.results.toList.mapM (q7 a)).run P w = .ok vals w):(results fn a.tmps).run P w = .ok (BI vals) w:=by
 have hm:(fn.results.mapM (q7 a)).run P w = .ok vals.toArray w:=by
  rw[Array.mapM_eq_mapM_toList,Sem.run_map,h]
  rfl
 show(do let vs ←fn.results.mapM (q7 a); pure (if h:vs.size=1 then vs[0] else .tuple vs):Sem Value).run P w=_
 simp only[bf_,hm,av_,bj_]
 congr 1
 match vals with
 | []=>rfl
 | [v]=>rfl
 | v :: v' :: l =>
  rw[dif_neg (by simp)]
  rfl
theorem ME {Gp:WP} (hE:fI P E) (hP:xS Gp P E) {k:Nat} (hR : ∀ w0 X,Gp w0 X→LQ P E w0 X k):kK Gp P E (eV E (run E k)):=by
 intro I args tab z key hg hz
 unfold eV at hz
 split at hz
 ·rename_i f hf
  exact hP I f key hg hf args tab z hz
 intro hcanon w γ Pr us hGp hI hlim N hN vs u n bs u' n' ub hmk1 hmk2 hub
 obtain⟨hfn,hbody,_⟩:=hE.fns key I hg
 obtain⟨c,hc⟩ : ∃ c,I.fn.body=some c:=by
  cases hb:I.fn.body with
  | none=>rw[hb] at hbody; cases hbody
  | some c=>exact⟨c,rfl⟩
 have hbo:aP I.fn=c:=by unfold aP; rw[hc]
 refine calls_of_wp hfn hc ?_
 have hlen:args.length=us.length:=QB hI.slots
 have hrep : ∀ m,cw (Ln Pr w) γ (bl_ m .undef) (bl_ m undef):=by
  intro m
  induction m with
  | zero=>exact .nil
  | succ m ih=>exact .cons .undef ih
 have hI0:bF w (nj tab γ) Pr (start I args tab).slots (aL (start I args tab).res) γ Pr {tmps:=us.toArray++Array.replicate (I.fn.ntmps - us.toArray.size) undef,defers:=[]} w:=by
  refine⟨?_,rfl,hI.gs,hI.wfs,hI.res,hI.apart,hI.loose,hI.where_,hI.frame,hI.size,hI.os,hI.tape,hI.output,hI.prIn,hI.prOld,hI.pr0⟩
  show cw (Ln Pr w) γ (args++bl_ (I.fn.ntmps - args.length) .undef) (us.toArray++Array.replicate (I.fn.ntmps - us.toArray.size) undef).toList
  have:(us.toArray++Array.replicate (I.fn.ntmps - us.toArray.size) undef).toList=us++bl_ (I.fn.ntmps - us.length) undef:=by simp
  rw[this,hlen]
  exact zw hI.slots (hrep _)
 have hz':run E k I (iC E I tab) c [] (start I args tab)=some z:=by rw[←hbo]; exact hz
 refine hR w (nj tab γ) hGp I (iC E I tab) c [] (start I args tab) z hz' Pr γ γ Pr _ w (bodyPost P I.fn _) ⟨hI0,fun _ _=>rfl,hlim,aq_ _⟩ ?_ k (aq_ _)
 intro σ' γ' Pr' a' w' hfin hA hn0
 have key:a'.defers=[] ∧ ∃ v,(results I.fn a'.tmps).run P w' = .ok v w' ∧ ∃ vals γr Pr2,Ending.returned v = .returned (BI vals)∧wZ w (nj tab γ) γ Pr N n' vs ub (u++u') vals γr Pr2 w' ∧ ∀ p∈di I.rb tab bs,γr p.1=γ p.2:=by
  refine⟨hA.inv.defers,?_⟩
  unfold iC at hfin
  simp only[am_] at hfin
  obtain⟨x,hx,cs,hcs,y,hy,hfin⟩:=hfin
  split at hfin
  ·rename_i honce hmeet
   cases hfin
   obtain⟨vals,hrun,hvals⟩:=Gf hE hA.inv I.fn.results.toList (QP hx)
   refine⟨BI vals,PE hrun,vals,?_⟩
   obtain⟨Pr2,hI2,hP2,hR2,hsame,_,hkeep⟩:=jJ (res:=σ'.res) hA.inv (fun r x h=>h) (eQ.go I.sh (I.fn.results.toList.map (given E σ'))++eQ.go I.bx cs)
   have hT2:pJ γ' σ'.res:=hA.inv.tys (fun r x h=>h)
   have hL2 : ∀ b o v,Ln Pr' w' b o v→Ln Pr2 w' b o v:=fun b o v h=>⟨hP2 _ _ h.1,h.2⟩
   have hnd:=EU honce
   have hn0':σ'.n0=tab.length:=hn0
   have hnumb:pU γ' (fun m=>if N≤m then((b8 I.sh (I.fn.results.toList.map (given E σ'))++b8 I.bx cs)[m - N]?).bind γ' else none) (b8 I.sh (I.fn.results.toList.map (given E σ'))++b8 I.bx cs) N:=by
    intro i r hr
    show(if N≤N+i then _ else none)=_
    rw[af_ (by omega),fw_,hr]
    rfl
   have hcnt1:n=N+(b8 I.sh (I.fn.results.toList.map (given E σ'))).length:=by
    have:=Ge I.sh _ x N hx
    have h2:(aO.go I.sh x N).2.2=n:=by
     have h3:aO.go I.sh x N=(vs,u,n):=hmk1
     rw[h3]
    rw[←h2]
    exact this
   have hcnt2:n'=N+(b8 I.sh (I.fn.results.toList.map (given E σ'))++b8 I.bx cs).length:=by
    have:=(gJ.give_count I.bx).2 _ y n hy
    have h2:(aO.go I.bx y n).2.2=n':=by
     have h3:aO.go I.bx y n=(bs,u',n'):=hmk2
     rw[h3]
    rw[←h2,this,hcnt1,ae_,dh_]
    rfl
   have hvs:vs=(aO.go I.sh x N).1:=by
    have h3:aO.go I.sh x N=(vs,u,n):=hmk1
    rw[h3]
   have hbs:bs=(aO.go I.bx y n).1:=by
    have h3:aO.go I.bx y n=(bs,u',n'):=hmk2
    rw[h3]
   have hro : ∀ r∈b8 I.sh (I.fn.results.toList.map (given E σ'))++b8 I.bx cs,∃ y1,rO tab.length σ'.res r y1:=by
    intro r hr
    rcases bo_.1 hr with hr | hr
    ·exact MC I.sh _ x hx r hr
    ·obtain⟨e,t,xs,b,hg⟩:=(uy I.bx).2 _ y hy r hr
     exact⟨_,.inl ⟨e,t,xs,b,rfl,hg⟩⟩
   have hget2 : ∀ r∈b8 I.sh (I.fn.results.toList.map (given E σ'))++b8 I.bx cs,bG (aL σ'.res) (ck σ'.res (eQ.go I.sh (I.fn.results.toList.map (given E σ'))++eQ.go I.bx cs)) r=aL σ'.res r:=fun r hr=>hsame r (fun h=>pf hmeet r hr h)
   have hrows : ∀ m w1,l9 (u++u') m=some w1 → ∃(i r:Nat),m=N+i∧(b8 I.sh (I.fn.results.toList.map (given E σ'))++b8 I.bx cs)[i]? = some r∧rO tab.length σ'.res r w1:=by
    intro m w1 h
    rcases MD h with h | h
    ·have hu1:u=(aO.go I.sh x N).2.1:=by
      have h3:aO.go I.sh x N=(vs,u,n):=hmk1
      rw[h3]
     have hu2:u'=(aO.go I.bx y n).2.1:=by
      have h3:aO.go I.bx y n=(bs,u',n'):=hmk2
      rw[h3]
     rcases bo_.1 h with h | h
     ·rw[hu1] at h
      obtain⟨i,r,y1,h1,h2,h3⟩:=JL I.sh _ x N hx _ h
      cases h1
      exact⟨i,r,rfl,(ci_ (ax_.1 h2).1).trans h2,h3⟩
     ·rw[hu2] at h
      obtain⟨i,r,e,t,xs,b,h1,h2,h3⟩:=(sk I.bx).2 _ y n hy _ h
      cases h1
      refine⟨(b8 I.sh (I.fn.results.toList.map (given E σ'))).length+i,r,by rw[hcnt1,dh_],?_,.inl ⟨e,t,xs,b,rfl,h3⟩⟩
      rw[df_ (by omega),fw_]
      exact h2
    ·cases h
   have hinj : ∀(i i' r:Nat),(b8 I.sh (I.fn.results.toList.map (given E σ'))++b8 I.bx cs)[i]? = some r→(b8 I.sh (I.fn.results.toList.map (given E σ'))++b8 I.bx cs)[i']? = some r→i=i':=by
    intro i i' r h h'
    exact(List.getElem?_inj (ax_.1 h).1 hnd).1 (h.trans h'.symm)
   have hblk : ∀(i r:Nat) (y:bh),(b8 I.sh (I.fn.results.toList.map (given E σ'))++b8 I.bx cs)[i]? = some r→bv (fun m=>if N≤m then((b8 I.sh (I.fn.results.toList.map (given E σ'))++b8 I.bx cs)[m - N]?).bind γ' else none) (N+i) y=bv γ' r y:=by
    intro i r y h
    have:=hnumb i r h
    cases y <;> simp only[bv,this]
   have hbox:=sn (γ:=γ') (γr:=fun m=>if N≤m then((b8 I.sh (I.fn.results.toList.map (given E σ'))++b8 I.bx cs)[m - N]?).bind γ' else none) hR2 hT2 tab I.bx cs y n ub hcs hy (by rw[←hbs]; exact hub) (fun r hr=>cq_ _ hr) (by rw[hcnt1]; exact hnumb.right)
   have hboxγ : ∀(j:Nat) (t:Ty) (c':SV),ub[j]? = some (some (.box t c')) → ∃ c1,aL σ'.res j=some (.box t c1)∧γ' j=γ j∧bG (aL σ'.res) (ck σ'.res (eQ.go I.sh (I.fn.results.toList.map (given E σ'))++eQ.go I.bx cs)) j=some (.box t c1) ∧ ∀ cells,RT (Ln Pr2 w') γ' t c1 cells→RT (Ln Pr2 w') (fun m=>if N≤m then((b8 I.sh (I.fn.results.toList.map (given E σ'))++b8 I.bx cs)[m - N]?).bind γ' else none) t c' cells:=by
    intro j t c' hj
    obtain⟨key,c1,c0,h1,h2,h3⟩:=hbox j t c' hj
    have hkj:key=j:=hcanon j _ h1
    subst hkj
    have hjl:key < tab.length:=(ax_.1 h1).1
    refine⟨c1,h2,hA.low key (by rw[hn0']; exact hjl),?_,h3⟩
    rw[hkeep key (fun e t xs b h=>by rw[h2] at h; cases h)]
    exact h2
   refine⟨fun m=>if N≤m then((b8 I.sh (I.fn.results.toList.map (given E σ'))++b8 I.bx cs)[m - N]?).bind γ' else none,Pr2,rfl,?_,?_⟩
   rotate_left
   ·intro p hp
    rw[hbs] at hp
    have h1:=pi (γ:=γ') (γr:=fun m=>if N≤m then((b8 I.sh (I.fn.results.toList.map (given E σ'))++b8 I.bx cs)[m - N]?).bind γ' else none) tab I.bx cs y n hcs hy (by rw[hcnt1]; exact hnumb.right) p hp
    rw[←hbs] at hp
    obtain⟨j,q,h2,h3,_⟩:=jv hub p hp
    have h4:p.2 < tab.length:=by
     rw[←h3,hcanon j q h2]
     exact(ax_.1 h2).1
    rw[←hA.low p.2 (by rw[hn0']; exact h4)]
    exact h1
   constructor
   case vals =>
    rw[hvs]
    exact MB hR2 hT2 I.sh _ vals x N (gV hL2 (fun _ _ h=>h) hvals) hx (fun r hr=>cz_ _ hr) hnumb.left
   case lim =>
    intro r g hr
    split at hr
    ·rename_i hNr
     rw[am_] at hr
     obtain⟨s,hs,hγ⟩:=hr
     have hsl:=(ax_.1 hs).1
     refine⟨⟨hNr,by rw[hcnt2]; omega⟩,?_⟩
     obtain⟨_,⟨e,t,xs,b,rfl,hrow⟩ | ⟨t,c,x1,rfl,_,hrow,_⟩⟩:=hro s (cg_ hs)
     ·obtain⟨v,css,hv,_⟩:=hA.inv.res s _ hrow
      rw[hγ] at hv
      cases hv
      obtain⟨A,m,c,rfl⟩:=hA.inv.gs _ _ _ _ hγ
      exact .inl ⟨e,t,A,m,c,rfl⟩
     ·obtain⟨b,arr,T,hv,_⟩:=hA.inv.res s _ hrow
      rw[hγ] at hv
      cases hv
      exact .inr ⟨b,t,rfl,hA.inv.wfs _ _ _ hγ⟩
    ·cases hr
   case box =>
    intro j t c' hj
    obtain⟨c1,h1,h2,h3,h4⟩:=hboxγ j t c' hj
    obtain⟨b,arr,T,h5,h6,h7⟩:=hI2.res j _ h3
    exact⟨b,arr,T,by rw[←h2]; exact h5,h6,h7.map h4⟩
   case row =>
    intro m w1 h
    obtain⟨i,r,rfl,h1,h2⟩:=hrows m w1 h
    have hil:=(ax_.1 h1).1
    refine⟨by omega,by rw[hcnt2]; omega,?_⟩
    rcases h2 with⟨e,t,xs,b,rfl,h2⟩ | ⟨t,c,x1,rfl,_,h2,h7⟩
    ·obtain⟨v,css,h3,h4,h5,h6⟩:=hI2.res r _ ((hget2 r (cg_ h1)).trans h2)
     exact⟨v,css,(hnumb i r h1).trans h3,h4,h5,h6⟩
    ·obtain⟨b,arr,T,h3,h4,h5⟩:=hI2.res r _ ((hget2 r (cg_ h1)).trans h2)
     refine⟨b,arr,T,(hnumb i r h1).trans h3,h4,h5.map fun cs h5 => ?_⟩
     have hk:=ur (L:=Ln Pr2 w') (γ:=γ') (res:=[]) (P:=fun _=>True) (fun r e t xs _ hh=>by rcases hh with⟨_,hh⟩ | hh <;> cases hh) 9 9 (aq_ _) (fun _ _=>trivial) h5 h7
     exact vP (.val hk) fun u hu=>by
      subst hu
      exact xP (hI2.wfs _ _ _ h3)
   case apart =>
    intro m m' y1 y2 b h h' hne hb
    obtain⟨i,r,rfl,h1,hh2⟩:=hrows m y1 h
    obtain⟨i',r',rfl,h1',hh2'⟩:=hrows m' y2 h'
    obtain⟨y1',h2,hbb,_⟩:=hh2.old
    obtain⟨y2',h2',hbb',_⟩:=hh2'.old
    rw[hblk i r _ h1,←hbb] at hb
    rw[hblk i' r' _ h1',←hbb']
    refine hI2.apart r r' y1' y2' b ((hget2 r (cg_ h1)).trans h2) ((hget2 r' (cg_ h1')).trans h2') (fun e=>hne ?_) hb
    subst e
    rw[hinj i i' r h1 h1']
   case beside =>
    intro j t c' b hj hγj m y1 h hb
    obtain⟨c1,h1,h2,h3,h4⟩:=hboxγ j t c' hj
    obtain⟨i,r,rfl,h5,hh6⟩:=hrows m y1 h
    have hjl:j < tab.length:=by
     rw[←(jK hub).1]
     exact(ax_.1 hj).1
    have hne:r≠j:=by
     rintro rfl
     rcases hh6 with⟨e,t',xs,b',rfl,h6⟩ | ⟨t',c2,x1,rfl,h6,_⟩
     ·rw[h6] at h1
      cases h1
     ·omega
    obtain⟨y1',h6,hbb,_⟩:=hh6.old
    rw[hblk i r _ h5,←hbb] at hb
    exact hI2.apart r j _ _ b ((hget2 r (cg_ h5)).trans h6) h3 hne hb (by simp[bv,h2,hγj])
   case boxLoose =>
    intro j t c' b hj hγj o ho
    obtain⟨c1,h1,h2,h3,h4⟩:=hboxγ j t c' hj
    exact hI2.loose j _ b h3 (by simp[bv,h2,hγj]) o ho
   case rowLoose =>
    intro m y1 b h hb o ho
    obtain⟨i,r,rfl,h1,hh2⟩:=hrows m y1 h
    obtain⟨y1',h2,hbb,hml⟩:=hh2.old
    rw[hblk i r _ h1,←hbb] at hb
    exact hml o (hI2.loose r _ b ((hget2 r (cg_ h1)).trans h2) hb o ho)
   case where_ =>
    intro m y1 b h hb
    obtain⟨i,r,rfl,h1,hh2⟩:=hrows m y1 h
    obtain⟨y1',h2,hbb,_⟩:=hh2.old
    rw[hblk i r _ h1,←hbb] at hb
    exact hI2.where_ r _ b ((hget2 r (cg_ h1)).trans h2) hb
   case frame=>exact hI2.frame
   case size=>exact hI2.size
   case os=>exact hI2.os
   case tape=>exact hI2.tape
   case output=>exact hI2.output
   case prIn=>exact hI2.prIn
   case prOld=>exact hI2.prOld
   case lean=>exact hI2.pr0
  ·cases hfin
 exact⟨key,key⟩
theorem UQ {Gp:WP} (hst:F6 Gp) (hm:P.follows .mixedOrders=true) (hE:fI P E) (hP:xS Gp P E) : ∀ k,kK Gp P E (eV E (run E k)):=by
 intro k
 induction k using Nat.strongRecOn with
 | _ k ih=>exact ME hE hP fun w0 X hG=>aaw hm hE k (fun j hj=>(ih j hj).weaken fun w X' hf=>hst w0 X w X' hG hf) k (aq_ _)
end
end Go.Proofs.YthbkdfcmjmmpgaaGreatDoor.Abs
namespace Go.Proofs.YthbkdfcmjmmpgaaGreatDoor.Abs
open Go Go.RowKit
theorem ua {α:Type} : ∀ {l:List (Nat×α)} {k:Nat} {v:α},dh l k=some v→(k,v)∈l
 | [],_,_,h=>by cases h
 | (i,x) :: l,k,v,h=>by
  unfold dh at h
  split at h
  ·rename_i hb
   cases h
   rw[br_ hb]
   simp
  ·exact ar_ _ (ua h)
def Sp:Value→Value→Bool
 | .int k n,.int k' m=>decide (k=k') && decide (n=m)
 | .bool a,.bool b=>a == b
 | .string s,.string t=>decide (s.data.toList=t.data.toList)
 | .slice none 0 0,.slice none 0 0=>true
 | .nilIface,.nilIface=>true
 | .nilFunc,.nilFunc=>true
 | .pointer none,.pointer none=>true
 | _,_=>false
theorem Xg {a b:Value} (h:Sp a b=true):a=b:=by
 unfold Sp at h
 split at h
 ·simp only[ah_,ai_] at h
  rw[h.1,h.2]
 ·rw[eq_of_beq h]
 ·have h':=dx_ h
  rename_i s t
  cases s
  cases t
  exact congrArg (fun d=>Value.string ⟨d⟩) (dv_.1 h')
 ·rfl
 ·rfl
 ·rfl
 ·rfl
 ·cases h
def Gg:List Value→List Value→Bool
 | [],[]=>true
 | a :: l,b :: m=>Sp a b && Gg l m
 | _,_=>false
theorem JM : ∀ {l m:List Value},Gg l m=true→l=m
 | [],[],_=>rfl
 | a :: l,b :: m,h=>by
  simp only[Gg,ah_] at h
  rw[Xg h.1,JM h.2]
 | [],_ :: _,h=>by cases h
 | _ :: _,[],h=>by cases h
def aaz (T:TypeId):Ty→Bool
 | .agg (.pair (.bp T') _)=>cp_ T T'
 | _=>true
theorem Zn {T:TypeId} {t:Ty} (h:aaz T t=true) : ∀ T' s,t = .agg (.pair (.bp T') s)→T=T':=by
 rintro T' s rfl
 exact br_ h
def Dr (P:Program) (T:TypeId) (t:Ty):Bool:=match P.info? T,P.underlying T with
 | some i,some d=>cp_ i.size t.sz && (match i.zero with | some z=>Gg z.cells.toList (zc t) | none=>false) && (WT d == pH t) && dt false t && aaz T t
 | _,_=>false
theorem zy {P:Program} {T:TypeId} {t:Ty} (h:Dr P T t=true):fQ P T t:=by
 unfold Dr at h
 split at h
 ·rename_i i d hi hd
  simp only[ah_] at h
  obtain⟨⟨⟨⟨h1,h2⟩,h3⟩,h4⟩,h5⟩:=h
  split at h2
  ·rename_i z hz
   exact⟨⟨i,hi,br_ h1,z,hz,JM h2⟩,⟨d,hd,eq_of_beq h3⟩,h4,Zn h5⟩
  ·cases h2
 ·cases h
def Ds (P:Program):List Field→Ty→Nat→Bool
 | [],.unit,_=>true
 | f :: fs,.pair a b,o=>cp_ f.offset o && !(f.name == "_") && Nat.blt 0 a.sz && Dr P f.type a && Ds P fs b (o+a.sz)
 | _,_,_=>false
theorem Gh {P:Program} : ∀ {fs:List Field} {t:Ty} {o:Nat},Ds P fs t o=true→QC P fs t o
 | [],.unit,_,_=>trivial
 | f :: fs,.pair a b,o,h=>by
  simp only[Ds,ah_,dy_] at h
  obtain⟨⟨⟨⟨h1,h2⟩,h3⟩,h4⟩,h5⟩:=h
  exact⟨br_ h1,fun e=>(by rw[e] at h2; simp at h2),(by simpa[Nat.blt_eq] using h3),zy h4,Gh h5⟩
 | [],.int _,_,h=>by cases h
 | [],.bool,_,h=>by cases h
 | [],.err,_,h=>by cases h
 | [],.fn,_,h=>by cases h
 | [],.pt,_,h=>by cases h
 | [],.bp _,_,h=>by cases h
 | [],.str,_,h=>by cases h
 | [],.pair _ _,_,h=>by cases h
 | [],.agg _,_,h=>by cases h
 | [],.slice _ _,_,h=>by cases h
 | _ :: _,.int _,_,h=>by cases h
 | _ :: _,.bool,_,h=>by cases h
 | _ :: _,.err,_,h=>by cases h
 | _ :: _,.fn,_,h=>by cases h
 | _ :: _,.pt,_,h=>by cases h
 | _ :: _,.bp _,_,h=>by cases h
 | _ :: _,.str,_,h=>by cases h
 | _ :: _,.unit,_,h=>by cases h
 | _ :: _,.agg _,_,h=>by cases h
 | _ :: _,.slice _ _,_,h=>by cases h
def MF (P:Program) (T:TypeId) (t:Ty):Bool:=match P.underlying T,t with
 | some (.int k),.int k'=>decide (k=k')
 | some .bool,.bool=>true
 | some .string,.str=>true
 | some (.slice e),.slice e' t=>cp_ e e' && Dr P e t && Nat.blt 0 t.sz && (!decide (t = .int .u8) || (match P.underlying e with | some (.int .u8)=>true | _=>false))
 | some (.struct fs),.agg t=>Ds P fs.toList t 0
 | some (.interface _),.err=>true
 | some _,.fn=>true
 | some _,.pt=>true
 | some _,.bp _=>true
 | _,_=>false
theorem UR {P:Program} {T:TypeId} {t:Ty} (h:MF P T t=true):mK P T t:=by
 unfold MF at h
 split at h
 ·rename_i k k' hu
  rw[dx_ h] at hu
  exact hu
 ·rename_i hu
  exact hu
 ·rename_i hu
  exact hu
 ·rename_i e e' t hu
  simp only[ah_] at h
  obtain⟨⟨⟨h1,h2⟩,h3⟩,h4⟩:=h
  have:=br_ h1
  subst this
  refine⟨hu,zy h2,(by simpa[Nat.blt_eq] using h3),fun ht => ?_⟩
  simp only[ht,decide_true,bc_,Bool.false_or] at h4
  split at h4
  ·assumption
  ·cases h4
 ·rename_i fs t hu
  exact⟨fs,hu,Gh h⟩
 ·rename_i ms hu
  exact⟨ms,hu⟩
 ·trivial
 ·trivial
 ·trivial
 ·cases h
def Sq (P:Program) (g:TypeId→Ty→Bool):List Field→Ty→Nat→Bool
 | [],.unit,_=>true
 | f :: fs,.pair a b,o=>cp_ f.offset o && !(f.name == "_") && Dr P f.type a && g f.type a && Sq P g fs b (o+a.sz)
 | _,_,_=>false
def oG (P:Program):Nat→TypeId→Ty→Bool
 | 0,_,_=>false
 | _+1,T,.int _=>match P.underlying T with | some (.int _)=>true | _=>false
 | _+1,T,.bool=>match P.underlying T with | some .bool=>true | _=>false
 | _+1,T,.str=>match P.underlying T with | some .string=>true | _=>false
 | d+1,T,.agg t=>match P.underlying T with
  | some (.struct fs) => !(P.stoodInHeld T) && Sq P (oG P d) fs.toList t 0
  | _=>false
 | _,_,_=>false
theorem QQ {P:Program} {g:TypeId→Ty→Bool} {L:Lk} {d:Nat} {w:World} (hg : ∀ T t,g T t=true → ∀(x y:t.den) (cs ds:List Value),RK L t x cs→RK L t y ds→(Op.equalIn d T (mk t cs) (mk t ds)).run P w = .ok (bk t x y) w) :
  ∀ {fs:List Field} {t:Ty} {o:Nat},Sq P g fs t o=true → ∀ {x y:t.den} {cs ds xs ys:List Value},RK L t x cs→RK L t y ds→eD cs xs o→eD ds ys o→(Op.eqFields d xs.toArray ys.toArray fs).run P w = .ok (bk t x y) w
 | [],.unit,_,_,_,_,_,_,_,_,_,_,_,_=>rfl
 | f :: fs,.pair a b,o,h,x,y,cs,ds,xs,ys,hx,hy,hsx,hsy=>by
  simp only[Sq,ah_,dy_] at h
  obtain⟨⟨⟨⟨h1,h2⟩,h3⟩,h4⟩,h5⟩:=h
  have h1:=br_ h1
  have hn:f.name ≠ "_" := fun e=>by rw[e] at h2; simp at h2
  have hi:=zy h3
  obtain⟨c1,d1,rfl,hx1,hx2⟩:=hx
  obtain⟨c2,d2,rfl,hy1,hy2⟩:=hy
  have p1:=H5 hi (ed hx1) ((eD.left c1 d1).trans hsx) w
  have p2:=H5 hi (ed hy1) ((eD.left c2 d2).trans hsy) w
  rw[ea_] at p1 p2
  have s1:=(eD.right c1 d1).trans hsx
  have s2:=(eD.right c2 d2).trans hsy
  rw[ed hx1] at s1
  rw[ed hy1] at s2
  have ih:=QQ hg h5 hx2 hy2 s1 s2
  have h6:=hg f.type a h4 x.1 y.1 c1 c2 hx1 hy1
  simp only[Op.eqFields,af_ hn,h1,bf_,p1,p2,av_,h6]
  show _=Result.ok (bk a x.1 y.1 && bk b x.2 y.2) w
  cases bk a x.1 y.1 with
  | false=>simp
  | true =>
   simp only[bc_,Bool.false_eq_true,if_false,Bool.true_and]
   exact ih
 | [],.int _,_,h,_,_,_,_,_,_,_,_,_,_=>by cases h
 | [],.bool,_,h,_,_,_,_,_,_,_,_,_,_=>by cases h
 | [],.err,_,h,_,_,_,_,_,_,_,_,_,_=>by cases h
 | [],.fn,_,h,_,_,_,_,_,_,_,_,_,_=>by cases h
 | [],.pt,_,h,_,_,_,_,_,_,_,_,_,_=>by cases h
 | [],.bp _,_,h,_,_,_,_,_,_,_,_,_,_=>by cases h
 | [],.str,_,h,_,_,_,_,_,_,_,_,_,_=>by cases h
 | [],.pair _ _,_,h,_,_,_,_,_,_,_,_,_,_=>by cases h
 | [],.agg _,_,h,_,_,_,_,_,_,_,_,_,_=>by cases h
 | [],.slice _ _,_,h,_,_,_,_,_,_,_,_,_,_=>by cases h
 | _ :: _,.int _,_,h,_,_,_,_,_,_,_,_,_,_=>by cases h
 | _ :: _,.bool,_,h,_,_,_,_,_,_,_,_,_,_=>by cases h
 | _ :: _,.err,_,h,_,_,_,_,_,_,_,_,_,_=>by cases h
 | _ :: _,.fn,_,h,_,_,_,_,_,_,_,_,_,_=>by cases h
 | _ :: _,.pt,_,h,_,_,_,_,_,_,_,_,_,_=>by cases h
 | _ :: _,.bp _,_,h,_,_,_,_,_,_,_,_,_,_=>by cases h
 | _ :: _,.str,_,h,_,_,_,_,_,_,_,_,_,_=>by cases h
 | _ :: _,.unit,_,h,_,_,_,_,_,_,_,_,_,_=>by cases h
 | _ :: _,.agg _,_,h,_,_,_,_,_,_,_,_,_,_=>by cases h
 | _ :: _,.slice _ _,_,h,_,_,_,_,_,_,_,_,_,_=>by cases h
theorem QR {P:Program} {L:Lk} {w:World} : ∀(n:Nat) (T:TypeId) (t:Ty),oG P n T t=true → ∀(d:Nat) (x y:t.den) (cs ds:List Value),RK L t x cs→RK L t y ds→(Op.equalIn (d+n) T (mk t cs) (mk t ds)).run P w = .ok (bk t x y) w
 | 0,_,_,h=>by simp[oG] at h
 | n+1,T,.int k,h=>fun d x y cs ds hx hy=>by
  rw[show cs=_ from hx,show ds=_ from hy]
  unfold oG at h
  split at h
  ·rename_i k' hu
   exact run_equalIn_int w (d+n) T k k' x y hu
  ·cases h
 | n+1,T,.bool,h=>fun d x y cs ds hx hy=>by
  rw[show cs=_ from hx,show ds=_ from hy]
  unfold oG at h
  split at h
  ·rename_i hu
   exact run_equalIn_bool' w (d+n) T x y hu
  ·cases h
 | n+1,T,.str,h=>fun d x y cs ds hx hy=>by
  rw[show cs=_ from hx,show ds=_ from hy]
  unfold oG at h
  split at h
  ·rename_i hu
   refine(run_equalIn_string w (d+n) T x y hu).trans ?_
   rw[←beq_toListBytes]
   rfl
  ·cases h
 | n+1,T,.agg t,h=>fun d x y cs ds hx hy=>by
  unfold oG at h
  split at h
  ·rename_i fs hu
   simp only[ah_,dy_] at h
   have hf:P.fieldsOf T=fs:=by simp[Program.fieldsOf,hu]
   have hu':P.underlying T=some (.struct (P.fieldsOf T)):=by rw[hf]; exact hu
   refine(run_equalIn_agg w (d+n) T cs.toArray ds.toArray hu' h.1).trans ?_
   rw[hf]
   exact QQ (fun T t hT x y cs ds hx hy=>QR n T t hT d x y cs ds hx hy) h.2 (t:=t) hx hy (eD.refl cs) (eD.refl ds)
  ·cases h
 | n+1,T,.unit,h=>by simp[oG] at h
 | n+1,T,.err,h=>by simp[oG] at h
 | n+1,T,.fn,h=>by simp[oG] at h
 | n+1,T,.pt,h=>by simp[oG] at h
 | n+1,T,.bp _,h=>by simp[oG] at h
 | n+1,T,.pair _ _,h=>by simp[oG] at h
 | n+1,T,.slice _ _,h=>by simp[oG] at h
def Xh (P:Program) (E:cD):Bool:=E.eqs.all fun p=>pH p.2 && !(P.eqGuardType P.depth p.1) && oG P 8 p.1 p.2
theorem Zo {P:Program} {E:cD} (h:Xh P E=true) : ∀ T t,dh E.eqs T=some t→aao P T t:=by
 intro T t hT
 unfold Xh at h
 rw[ck_] at h
 have:=h (T,t) (ua hT)
 simp only[ah_,dy_] at this
 refine⟨?_,this.1.2,fun L x y cs ds w hx hy=>QR 8 T t this.2 9992 x y cs ds hx hy⟩
 cases t <;> first | exact⟨_,rfl⟩ | cases this.1.1
def US (P:Program) (E:cD):Bool:=Xh P E && (E.ty.all fun p=>MF P p.1 p.2 && Dr P p.1 p.2) && E.by_.all fun p=>Nat.blt 0 p.2 && (match P.info? p.1 with | some i=>cp_ i.bytes p.2 | none=>true)
theorem Xi {P:Program} {E:cD} (h:US P E=true) (hf : ∀ p∈E.fns,P.funcs[p.2.g]? = some p.2.fn∧p.2.fn.body.isSome=true∧(p.2.fn.name == "runtime.NumGoroutine")=false):fI P E:=by
 unfold US at h
 simp only[ah_,ck_] at h
 obtain⟨⟨hq,h1⟩,h2⟩:=h
 have h:=And.intro h1 h2
 refine⟨fun T t hT => ?_,fun e nb i hb hi => ?_,fun g I hg=>hf (g,I) (ua hg),Zo hq⟩
 ·have:=h.1 (T,t) (ua hT)
  exact⟨UR this.1,zy this.2⟩
 ·have:=h.2 (e,nb) (ua hb)
  simp only[hi] at this
  exact⟨br_ this.2,by simpa[Nat.blt_eq] using this.1⟩
end Go.Proofs.YthbkdfcmjmmpgaaGreatDoor.Abs
namespace Go.Proofs.YthbkdfcmjmmpgaaGreatDoor.Abs
open Go Go.RowKit
section
variable {E:cD} {call call':(I:ax)→List SV→aM→Option (I.sh.den×I.bx.den)}
theorem uz (hc : ∀ I args tab z,call I args tab=some z→call' I args tab=some z) {g key:Nat} {args:List SV} {res:aM} {r0:Nat} {p:SV×Up} (h:gG E call g key args res r0 cC=some p):gG E call' g key args res r0 cC=some p:=by
 unfold gG at h ⊢
 cases hI:dh E.fns key with
 | none=>rw[hI] at h; cases h
 | some I =>
  simp only[hI] at h ⊢
  cases hg:cp_ I.g g with
  | false=>rw[hg] at h; cases h
  | true =>
   simp only[hg] at h ⊢
   cases hv:ul res (I.fn.params.toList.map fun T=>dh E.ty T) I.own args with
   | none=>rw[hv] at h; cases h
   | some q =>
    obtain⟨args',fr⟩:=q
    simp only[hv] at h ⊢
    split at h
    ·rename_i h1 h2 h3
     rw[am_] at h
     obtain⟨z,hz,h⟩:=h
     rw[am_]
     exact⟨z,hc _ _ _ _ hz,h⟩
    ·cases h
theorem PF (hc : ∀ I args tab z,call I args tab=some z→call' I args tab=some z) {g:Nat} {args:List SV} {res:aM} {r0:Nat} {p:SV×Up} (h:ju E call g args res r0 cC=some p):ju E call' g args res r0 cC=some p:=by
 unfold ju at h ⊢
 split at h
 ·exact uz hc h
 ·rename_i s hs
  rw[am_] at h ⊢
  obtain⟨b,hb,h⟩:=h
  refine⟨b,hb,?_⟩
  split at h
  ·rename_i hb'
   rw[af_ hb']
   exact uz hc h
  ·rename_i hb'
   rw[ad_ hb']
   exact uz hc h
theorem UT (hc : ∀ I args tab z,call I args tab=some z→call' I args tab=some z) {o:Oper} {vs:List SV} {res:aM} {r0:Nat} {p:SV×Up} (h:cE E call o vs res r0 cC=some p):cE E call' o vs res r0 cC=some p:=by
 obtain⟨dst,op,ty,pos,after,guard⟩:=o
 cases op
 case call c =>
  obtain⟨callee,args,argTypes⟩:=c
  cases callee with
  | value f =>
   rcases vs with _ | ⟨v1,vs⟩
   ·cases h
   ·cases v1 with
    | fn g caps =>
     rcases vs with _ | ⟨v2,_ | ⟨v3,vs⟩⟩ <;> exact PF hc h
    | _=>rcases vs with _ | ⟨v2,_ | ⟨v3,vs⟩⟩ <;> cases h
  | _=>rcases vs with _ | ⟨v1,_ | ⟨v2,_ | ⟨v3,vs⟩⟩⟩ <;> exact h
 case makeFunc fn first captured=>cases fn <;> rcases vs with _ | ⟨v1,_ | ⟨v2,_ | ⟨v3,vs⟩⟩⟩ <;> exact h
 all_goals rcases vs with _ | ⟨v1,_ | ⟨v2,_ | ⟨v3,_ | ⟨v4,vs⟩⟩⟩⟩ <;> exact h
theorem Sr (hc : ∀ I args tab z,call I args tab=some z→call' I args tab=some z) {R R':Type} {K:SV→Up→Option R} {K':SV→Up→Option R'} {z:R} {z':R'} (hK : ∀ v u,K v u=some z→K' v u=some z') {o:Oper} {vs:List SV} {res:aM} {r0:Nat} (h:cE E call o vs res r0 K=some z):cE E call' o vs res r0 K'=some z':=by
 obtain⟨v,u,h1,h2⟩:=BA h
 rw[Me,UT hc h1]
 exact hK v u h2
theorem w6 (hc : ∀ I args tab z,call I args tab=some z→call' I args tab=some z) {R:Type} {K K':St→Option R} {z:R} (hK : ∀ σ,K σ=some z→K' σ=some z) {all:Array Oper} {draw:Bool} {base:Nat} :
  ∀ {l:List (Nat×Oper)} {g:List Bz} {σ:St},cK E call all draw base l g σ K=some z→cK E call' all draw base l g σ K'=some z
 | [],g,σ,h=>by
  unfold cK at h ⊢
  cases draw with
  | false=>exact hK σ h
  | true =>
   simp only at h ⊢
   split at h
   ·rename_i h1 h2
    exact hK σ h
   ·cases h
 | (i,o) :: l,g,σ,h=>by
  have act : ∀(σ:St) (b:Bool),(match b with
   | true=>cE E call o ((dN o.op).map (ev σ.slots)) (gU σ.res (mH o σ.res ((dN o.op).map (ev σ.slots)))) (base+64*i) fun v u=>match uo (base+64*i) (mH o σ.res ((dN o.op).map (ev σ.slots))) u with
    | true=>cK E call all draw base l ({i,see:=mH o σ.res ((dN o.op).map (ev σ.slots)),turn:=u.map (·.1)} :: g) (oD σ o.dst v u) K
    | false=>none
   | false=>cK E call all draw base l ({i,see:=[],turn:=[]} :: g) (oD σ o.dst (.tup []) []) K)=some z →
   (match b with
   | true=>cE E call' o ((dN o.op).map (ev σ.slots)) (gU σ.res (mH o σ.res ((dN o.op).map (ev σ.slots)))) (base+64*i) fun v u=>match uo (base+64*i) (mH o σ.res ((dN o.op).map (ev σ.slots))) u with
    | true=>cK E call' all draw base l ({i,see:=mH o σ.res ((dN o.op).map (ev σ.slots)),turn:=u.map (·.1)} :: g) (oD σ o.dst v u) K'
    | false=>none
   | false=>cK E call' all draw base l ({i,see:=[],turn:=[]} :: g) (oD σ o.dst (.tup []) []) K')=some z:=by
   intro σ b h
   cases b with
   | true =>
    refine Sr hc (fun v u hh => ?_) h
    split at hh
    ·exact w6 hc hK hh
    ·cases hh
   | false=>exact w6 hc hK h
  unfold cK at h ⊢
  dsimp only at h ⊢
  split at h
  ·exact act σ true h
  ·rename_i j want hg
   split at h
   ·rename_i d hd
    split at h
    ·split at h
     ·rename_i hx
      rw[af_ hx]
      exact act {σ with slots:=dq σ.slots d (.val .bool true)} (true == want) h
     ·rename_i hx
      rw[ad_ hx]
      exact act {σ with slots:=dq σ.slots d (.val .bool false)} (false == want) h
    ·exact act σ false h
    ·cases h
   ·cases h
theorem EZ (E:cD) : ∀ {k m:Nat},k≤m → ∀ {I:ax} {R:Type} {K K':St→Option R} {c:Code} {S:List Fr} {σ:St} {z:R},(∀ σ,K σ=some z→K' σ=some z)→run E k I K c S σ=some z→run E m I K' c S σ=some z
 | 0,_,_,_,_,_,_,_,_,_,_,_,h=>by cases h
 | k+1,0,hle,_,_,_,_,_,_,_,_,_,_=>bk_ hle (by omega)
 | k+1,m+1,hle,I,R,K,K',c,S,σ,z,hK,h=>by
  have ih : ∀ {I:ax} {R:Type} {K K':St→Option R} {c:Code} {S:List Fr} {σ:St} {z:R},(∀ σ,K σ=some z→K' σ=some z)→run E k I K c S σ=some z→run E m I K' c S σ=some z:=fun hK h=>EZ E (Nat.le_of_succ_le_succ hle) hK h
  have ihp : ∀ {S:List Fr} {σ:St},uq (run E k) I K S σ=some z→uq (run E m) I K' S σ=some z:=by
   intro S σ h
   cases S with
   | nil=>exact hK σ h
   | cons f S=>cases f <;> exact ih hK h
  have ihc : ∀ I args tab z,eV E (run E k) I args tab=some z→eV E (run E m) I args tab=some z:=fun I args tab z h=>by
   unfold eV at h ⊢
   split at h
   ·exact h
   ·exact ih (fun σ h=>h) h
  rw[oF] at h ⊢
  unfold sU at h ⊢
  split at h
  ·exact ihp h
  ·dsimp only at h ⊢
   exact w6 ihc (fun σ' h'=>ihp h') h
  ·exact ih hK h
  ·split at h
   ·split at h
    ·rename_i hx
     rw[af_ hx]
     exact ih hK h
    ·rename_i hx
     rw[ad_ hx]
     exact ih hK h
   ·cases h
  ·exact ih hK h
  ·exact ih hK h
  ·split at h
   ·exact ih hK h
   ·cases h
  ·exact hK σ h
  ·cases h
end
theorem UU {E:cD} {k m:Nat} (hm:k≤m) {I:ax} {args:List SV} {tab:aM} {z:I.sh.den×I.bx.den} (h:call E k I args tab=some z):call E m I args tab=some z:=by
 unfold call eV at h ⊢
 split at h
 ·exact h
 ·exact EZ E hm (fun _ h=>h) h
end Go.Proofs.YthbkdfcmjmmpgaaGreatDoor.Abs
namespace Go.Proofs.YthbkdfcmjmmpgaaGreatDoor.Abs
open Go Go.RowKit
def Ev {R:Type} (f:Nat→Option R) (z:R):Prop := ∃ k0,∀ k,k0≤k→f k=some z
section
variable {R R':Type} {f:Nat→Option R} {z:R}
theorem Ev.now:Ev (fun _=>some z) z:=⟨0,fun _ _=>rfl⟩
theorem Ev.later (h:Ev f z) (c:Nat):Ev (fun k=>f (k+c)) z:=by
 obtain⟨k0,h⟩:=h
 exact⟨k0,fun k hk=>h _ (by omega)⟩
theorem Ev.eqn {g:Nat→Option R} (c:Nat) (he : ∀ k,f (k+c)=g k) (h:Ev g z):Ev f z:=by
 obtain⟨k0,h⟩:=h
 refine⟨k0+c,fun k hk => ?_⟩
 have:=he (k - c)
 rw[show k - c+c=k by omega] at this
 rw[this]
 exact h _ (by omega)
theorem Ev.bind {g:R→Nat→Option R'} {y:R'} (h:Ev f z) (k:Ev (g z) y):Ev (fun n=>(f n).bind fun x=>g x n) y:=by
 obtain⟨a,h⟩:=h
 obtain⟨b,k⟩:=k
 refine⟨a+b,fun n hn => ?_⟩
 show(f n).bind _=_
 rw[h n (by omega)]
 exact k n (by omega)
theorem Ev.ite {c:Prop} [Decidable c] {g:Nat→Option R} (h1:c→Ev f z) (h2 : ¬c→Ev g z):Ev (fun k=>if c then f k else g k) z:=by
 by_cases h:c
 ·obtain⟨k0,hk⟩:=h1 h
  exact⟨k0,fun k hh=>by simp only[af_ h]; exact hk k hh⟩
 ·obtain⟨k0,hk⟩:=h2 h
  exact⟨k0,fun k hh=>by simp only[ad_ h]; exact hk k hh⟩
theorem Ev.pos {c:Prop} [Decidable c] {g:Nat→Option R} (hc:c) (h1:Ev f z):Ev (fun k=>if c then f k else g k) z:=Ev.ite (fun _=>h1) (fun h=>bk_ hc h)
theorem Ev.neg {c:Prop} [Decidable c] {g:Nat→Option R} (hc : ¬c) (h1:Ev g z):Ev (fun k=>if c then f k else g k) z:=Ev.ite (fun h=>bk_ h hc) (fun _=>h1)
end
def uA (E:cD) (I:ax) (args:List SV) (tab:aM) (z:I.sh.den×I.bx.den):Prop:=Ev (fun k=>call E k I args tab) z
theorem uA.at_ {E:cD} {I:ax} {args:List SV} {tab:aM} {z:I.sh.den×I.bx.den} (h:uA E I args tab z) : ∃ k,call E k I args tab=some z:=by
 obtain⟨k,h⟩:=h
 exact⟨k,h k (aq_ _)⟩
theorem uA.of {E:cD} {I:ax} {args:List SV} {tab:aM} {z:I.sh.den×I.bx.den} {k:Nat} (h:call E k I args tab=some z):uA E I args tab z :=
 ⟨k,fun m hm=>UU hm h⟩
theorem uA.calls {P:Program} {E:cD} {Gp:WP} (hst:F6 Gp) (hm:P.follows .mixedOrders=true) (hE:fI P E) (hP:xS Gp P E) {I:ax} {args:List SV} {tab:aM} {z:I.sh.den×I.bx.den} (h:uA E I args tab z) {key:Nat} (hg:dh E.fns key=some I) (hcanon : ∀(k:Nat) (p:Nat×bh),tab[k]? = some p→p.1=k)
  {w:World} {γ:Nat→Option G} {Pr:Nat→Nat→Prop} {us:List Value} (hGp:Gp w (nj tab γ)) (hI:bF w (nj tab γ) Pr args (aL tab) γ Pr {tmps:=us.toArray,defers:=[]} w) (hlim : ∀ r,tab.length≤r→γ r=none) {N:Nat} (hN:tab.length≤N) {vs bs:List SV} {u u':Up} {n n':Nat} {ub:List (Option bh)}
  (h1:b7 I.sh z.1 N=(vs,u,n)) (h2:b7 I.bx z.2 n=(bs,u',n')) (h3:cB I.rb tab bs (rJ I.bx)=some ub) :
  Calls P I.g us.toArray w fun e w' => ∃ vals γr Pr',e = .returned (BI vals)∧wZ w (nj tab γ) γ Pr N n' vs ub (u++u') vals γr Pr' w' ∧ ∀ p∈di I.rb tab bs,γr p.1=γ p.2:=by
 obtain⟨k,hk⟩:=h.at_
 exact UQ hst hm hE hP k I args tab z key hg hk hcanon w γ Pr us hGp hI hlim N hN vs u n bs u' n' ub h1 h2 h3
end Go.Proofs.YthbkdfcmjmmpgaaGreatDoor.Abs
namespace Go.Proofs.YthbkdfcmjmmpgaaGreatDoor.Abs
open Go
def kids:Code→List Code
 | .seq a b=>[a,b]
 | .cond _ a b=>[a,b]
 | .block _ a=>[a]
 | .loop a=>[a]
 | _=>[]
def at_:Code→List Nat→Code
 | c,[]=>c
 | c,i :: l=>match kids c,i with
  | a :: _,0=>at_ a l
  | [_,b],1=>at_ b l
  | _,_ => .skip
instance (t:Ty):Inhabited t.den:=⟨t.dflt⟩
def cP (e:TypeId) (t:Ty) (nb:Nat):List SV→aM→Option ((Sh.pair (.row e t false) .unit).den×Sh.unit.den)
 | [.val s xs],[]=>(iB? (t:=s) (.slice e t) xs).bind fun xs=>if(xs:List t.den).length*nb≤140737488355328 then some ((xs,()),()) else none
 | _,_=>none
noncomputable def dC {α:Type} [Inhabited α] (lt:α→α→Bool) (xs:List α):List α:=(Sort.pdq lt xs.toArray 0 xs.toArray.size (fh_ xs.toArray.size) true true).toList
noncomputable def gX (e:TypeId) (t:Ty) (g:Nat) (lt:t.den→t.den→Bool):List SV→aM→Option (Sh.unit.den×(Sh.pair (.row e t false) .unit).den)
 | [.row 0,.fn g' []],[(0,.row e' s xs false)]=>if g'=g then(iB? (t := .slice e' s) (.slice e t) xs).bind fun xs=>if(xs:List t.den).length < 4611686018427387904 then some ((),dC lt (xs:List t.den),()) else none else none
 | _,_=>none
def cY (n:Int):aa_:=⟨(Lib.itoa n).toArray⟩
def Dt:List SV→aM→Option ((Sh.pair (.val .str) .unit).den×Sh.unit.den)
 | [.val (.int .i64) n,.val (.int .i64) b],[]=>if(b:Int)=10 ∧ -9223372036854775808≤(n:Int)∧(n:Int)≤9223372036854775807 then some ((cY n,()),()) else none
 | _,_=>none
def uB (c:aa_):Bool:=decide (c.size≤1000) && c.data.toList.all fun b=>decide (b.toNat < 128)
def pW:List SV→aM→Option ((Sh.pair (.val .str) .unit).den×Sh.unit.den)
 | [.val .str s,.val .str c],[]=>if uB c=true then some ((⟨(Lib.trimLeftS (s:aa_).data.toList (c:aa_).data.toList).toArray⟩,()),()) else none
 | _,_=>none
def zz:List SV→aM→Option ((Sh.pair (.val .str) .unit).den×Sh.unit.den)
 | [.val .str s,.val .str c],[]=>if uB c=true∧(s:aa_).size≤9223372036854775807 then some ((⟨(Lib.trimS (s:aa_).data.toList (c:aa_).data.toList).toArray⟩,()),()) else none
 | _,_=>none
def Du:List SV→aM→Option ((Sh.pair (.val .str) (.pair (.val .str) (.pair (.val .bool) .unit))).den×Sh.unit.den)
 | [.val .str s,.val .str c],[]=>if(s:aa_).size < 4294967281 then some ((⟨(Lib.cut (s:aa_).data.toList (c:aa_).data.toList).1.toArray⟩,⟨(Lib.cut (s:aa_).data.toList (c:aa_).data.toList).2.1.toArray⟩,(Lib.cut (s:aa_).data.toList (c:aa_).data.toList).2.2,()),()) else none
 | _,_=>none
def rP:List SV→aM→Option ((Sh.pair (.val .str) .unit).den×Sh.unit.den)
 | [.val .str s,.val .str a,.val .str b],[]=>if(s:aa_).size < 4294967281∧1≤(a:aa_).size∧(s:aa_).size+Lib.countB s a*(b:aa_).size≤140737488355328 then some ((⟨(Lib.replaceAll (s:aa_).data.toList (a:aa_).data.toList (b:aa_).data.toList).toArray⟩,()),()) else none
 | _,_=>none
def zA (e:TypeId):List SV→aM→Option ((Sh.pair (.val .str) .unit).den×Sh.unit.den)
 | [.val t xs,.val .str c],[]=>(iB? (t:=t) (.slice e .str) xs).bind fun xs=>if(xs:List aa_).length≤140737488355328∧(Lib.join ((xs:List aa_).map (·.data.toList)) (c:aa_).data.toList).length≤140737488355328 then some ((⟨(Lib.join ((xs:List aa_).map (·.data.toList)) (c:aa_).data.toList).toArray⟩,()),()) else none
 | _,_=>none
def ct (l:List UInt8):Int×Bool:=match Lib.parseIntB 64 l with
 | .ok v=>(v,true)
 | .range=>(Lib.intSat 64 l,false)
 | _=>(0,false)
def pX:List SV→aM→Option ((Sh.pair (.val (.int .i64)) (.pair (.val .err) .unit)).den×Sh.unit.den)
 | [.val .str s,.val (.int .i64) b,.val (.int .i64) n],[]=>if(s:aa_).size≤281474976710656∧(b:Int)=10∧(n:Int)=64 then some (((ct (s:aa_).data.toList).1,(ct (s:aa_).data.toList).2,()),()) else none
 | _,_=>none
open Go Go.RowKit
theorem Ev.uniq {R:Type} {f:Nat→Option R} {z z':R} (h:Ev f z) (h':Ev f z'):z=z':=by
 obtain⟨a,h⟩:=h
 obtain⟨b,h'⟩:=h'
 have h1:=h (a+b) (by omega)
 rw[h' (a+b) (by omega)] at h1
 exact(cb_ h1).symm
open Classical in
noncomputable def lim {R:Type} (f:Nat→Option R):Option R:=if h : ∃ z,Ev f z then some h.choose else none
theorem Xj {R:Type} {f:Nat→Option R} {z:R}:lim f=some z↔Ev f z:=by
 unfold lim
 constructor
 ·intro h
  split at h
  ·rename_i hz
   have:=hz.choose_spec
   rw[cb_ h] at this
   exact this
  ·cases h
 ·intro h
  have hz : ∃ z,Ev f z:=⟨z,h⟩
  rw[dif_pos hz,hz.choose_spec.uniq h]
noncomputable def lH (E:cD):nv:=fun I _ K c S σ=>lim fun k=>run E k I K c S σ
theorem vS {E:cD} {I:ax} {R:Type} {K:St→Option R} {c:Code} {S:List Fr} {σ:St} {z:R}:lH E I K c S σ=some z ↔ ∃ k,∀ m,k≤m→run E m I K c S σ=some z:=Xj
theorem QS {E:cD} {I:ax} {R:Type} {K:St→Option R} {c:Code} {S:List Fr} {σ:St} {z:R} {k:Nat} (h:run E k I K c S σ=some z):lH E I K c S σ=some z :=
 vS.2 ⟨k,fun m hm=>EZ E hm (fun _ h=>h) h⟩
section
variable {E:cD} {call:(I:ax)→List SV→aM→Option (I.sh.den×I.bx.den)} {call':Nat→(I:ax)→List SV→aM→Option (I.sh.den×I.bx.den)}
theorem uC (hc : ∀ I args tab z,call I args tab=some z → ∃ k,∀ m,k≤m→call' m I args tab=some z) {g key:Nat} {args:List SV} {res:aM} {r0:Nat} {p:SV×Up} (h:gG E call g key args res r0 cC=some p) : ∃ k,∀ m,k≤m→gG E (call' m) g key args res r0 cC=some p:=by
 unfold gG at h ⊢
 cases hI:dh E.fns key with
 | none=>rw[hI] at h; cases h
 | some I =>
  simp only[hI] at h ⊢
  cases hg:cp_ I.g g with
  | false=>rw[hg] at h; cases h
  | true =>
   simp only[hg] at h ⊢
   cases hv:ul res (I.fn.params.toList.map fun T=>dh E.ty T) I.own args with
   | none=>rw[hv] at h; cases h
   | some q =>
    obtain⟨args',fr⟩:=q
    simp only[hv] at h ⊢
    split at h
    ·rename_i h1 h2 h3
     rw[am_] at h
     obtain⟨z,hz,h⟩:=h
     obtain⟨k,hk⟩:=hc _ _ _ _ hz
     refine⟨k,fun m hm => ?_⟩
     rw[am_]
     exact⟨z,hk m hm,h⟩
    ·cases h
theorem PG (hc : ∀ I args tab z,call I args tab=some z → ∃ k,∀ m,k≤m→call' m I args tab=some z) {g:Nat} {args:List SV} {res:aM} {r0:Nat} {p:SV×Up} (h:ju E call g args res r0 cC=some p) : ∃ k,∀ m,k≤m→ju E (call' m) g args res r0 cC=some p:=by
 unfold ju at h ⊢
 split at h
 ·exact uC hc h
 ·rename_i s hs
  rw[am_] at h
  obtain⟨b,hb,h⟩:=h
  split at h
  ·rename_i hb'
   obtain⟨k,hk⟩:=uC hc h
   refine⟨k,fun m hm => ?_⟩
   rw[am_]
   refine⟨b,hb,?_⟩
   rw[af_ hb']
   exact hk m hm
  ·rename_i hb'
   obtain⟨k,hk⟩:=uC hc h
   refine⟨k,fun m hm => ?_⟩
   rw[am_]
   refine⟨b,hb,?_⟩
   rw[ad_ hb']
   exact hk m hm
theorem UV (hc : ∀ I args tab z,call I args tab=some z → ∃ k,∀ m,k≤m→call' m I args tab=some z) {o:Oper} {vs:List SV} {res:aM} {r0:Nat} {p:SV×Up} (h:cE E call o vs res r0 cC=some p) : ∃ k,∀ m,k≤m→cE E (call' m) o vs res r0 cC=some p:=by
 obtain⟨dst,op,ty,pos,after,guard⟩:=o
 cases op
 case call c =>
  obtain⟨callee,args,argTypes⟩:=c
  cases callee with
  | value f =>
   rcases vs with _ | ⟨v1,vs⟩
   ·cases h
   ·cases v1 with
    | fn g caps =>
     rcases vs with _ | ⟨v2,_ | ⟨v3,vs⟩⟩ <;> exact PG hc h
    | _=>rcases vs with _ | ⟨v2,_ | ⟨v3,vs⟩⟩ <;> cases h
  | _=>rcases vs with _ | ⟨v1,_ | ⟨v2,_ | ⟨v3,vs⟩⟩⟩ <;> exact⟨0,fun _ _=>h⟩
 case makeFunc fn first captured=>cases fn <;> rcases vs with _ | ⟨v1,_ | ⟨v2,_ | ⟨v3,vs⟩⟩⟩ <;> exact⟨0,fun _ _=>h⟩
 all_goals rcases vs with _ | ⟨v1,_ | ⟨v2,_ | ⟨v3,_ | ⟨v4,vs⟩⟩⟩⟩ <;> exact⟨0,fun _ _=>h⟩
def Ss (E:cD) (call:(I:ax)→List SV→aM→Option (I.sh.den×I.bx.den)) {R:Type} (all:Array Oper) (draw:Bool) (base i:Nat) (o:Oper) (l:List (Nat×Oper)) (g:List Bz) (K:St→Option R) (σ:St) (b:Bool):Option R:=match b with
 | true=>cE E call o ((dN o.op).map (ev σ.slots)) (gU σ.res (mH o σ.res ((dN o.op).map (ev σ.slots)))) (base+64*i) fun v u=>match uo (base+64*i) (mH o σ.res ((dN o.op).map (ev σ.slots))) u with
  | true=>cK E call all draw base l ({i,see:=mH o σ.res ((dN o.op).map (ev σ.slots)),turn:=u.map (·.1)} :: g) (oD σ o.dst v u) K
  | false=>none
 | false=>cK E call all draw base l ({i,see:=[],turn:=[]} :: g) (oD σ o.dst (.tup []) []) K
theorem w7 (hc : ∀ I args tab z,call I args tab=some z → ∃ k,∀ m,k≤m→call' m I args tab=some z) {R:Type} {K:St→Option R} {K':Nat→St→Option R} {z:R} (hK : ∀ σ,K σ=some z → ∃ k,∀ m,k≤m→K' m σ=some z) {all:Array Oper} {draw:Bool} {base:Nat} :
  ∀ {l:List (Nat×Oper)} {g:List Bz} {σ:St},cK E call all draw base l g σ K=some z → ∃ k,∀ m,k≤m→cK E (call' m) all draw base l g σ (K' m)=some z
 | [],g,σ,h=>by
  unfold cK at h ⊢
  cases draw with
  | false=>exact hK σ h
  | true =>
   simp only at h ⊢
   split at h
   ·rename_i h1 h2
    exact hK σ h
   ·cases h
 | (i,o) :: l,g,σ,h=>by
  have act : ∀(σ:St) (b:Bool),Ss E call all draw base i o l g K σ b=some z → ∃ k,∀ m,k≤m→Ss E (call' m) all draw base i o l g (K' m) σ b=some z:=by
   unfold Ss
   intro σ b h
   cases b with
   | true =>
    obtain⟨v,u,h1,h2⟩:=BA h
    obtain⟨k1,hk1⟩:=UV hc h1
    split at h2
    ·rename_i hs
     obtain⟨k2,hk2⟩:=w7 hc hK h2
     refine⟨k1+k2,fun m hm => ?_⟩
     rw[Me,hk1 m (by omega)]
     simp only[ab_,hs]
     exact hk2 m (by omega)
    ·cases h2
   | false=>exact w7 hc hK h
  unfold cK at h
  simp only[cK]
  dsimp only at h ⊢
  split at h
  ·exact act σ true h
  ·rename_i j want hg
   split at h
   ·rename_i d hd
    split at h
    ·split at h
     ·rename_i hx
      simp only[af_ hx]
      exact act {σ with slots:=dq σ.slots d (.val .bool true)} (true == want) h
     ·rename_i hx
      simp only[ad_ hx]
      exact act {σ with slots:=dq σ.slots d (.val .bool false)} (false == want) h
    ·exact act σ false h
    ·cases h
   ·cases h
theorem JN {rec:nv} {rec':Nat→nv} {I:ax} {R:Type} {K:St→Option R} (hr : ∀(I:ax) (R:Type) (K:St→Option R) c S σ z,rec I K c S σ=some z → ∃ k,∀ m,k≤m→rec' m I K c S σ=some z) {c:Code} {S:List Fr} {σ:St} {z:R} (h:sU E rec I K c S σ=some z) : ∃ k,∀ m,k≤m→sU E (rec' m) I K c S σ=some z:=by
 have ihp : ∀ {S:List Fr} {σ:St},uq rec I K S σ=some z → ∃ k,∀ m,k≤m→uq (rec' m) I K S σ=some z:=by
  intro S σ h
  cases S with
  | nil=>exact⟨0,fun _ _=>h⟩
  | cons f S=>cases f <;> exact hr _ _ _ _ _ _ _ h
 have ihc : ∀ I args tab z,eV E rec I args tab=some z → ∃ k,∀ m,k≤m→eV E (rec' m) I args tab=some z:=fun I args tab z h=>by
  unfold eV at h ⊢
  split at h
  ·exact⟨0,fun _ _=>h⟩
  ·exact hr _ _ _ _ _ _ _ h
 unfold sU at h ⊢
 split at h
 ·exact ihp h
 ·dsimp only at h ⊢
  exact w7 ihc (K':=fun m σ'=>uq (rec' m) I K S {σ' with nx:=_}) (fun σ' h'=>ihp h') h
 ·exact hr _ _ _ _ _ _ _ h
 ·split at h
  ·split at h
   ·rename_i hx
    simp only[af_ hx]
    exact hr _ _ _ _ _ _ _ h
   ·rename_i hx
    simp only[ad_ hx]
    exact hr _ _ _ _ _ _ _ h
  ·cases h
 ·exact hr _ _ _ _ _ _ _ h
 ·exact hr _ _ _ _ _ _ _ h
 ·split at h
  ·exact hr _ _ _ _ _ _ _ h
  ·cases h
 ·exact⟨0,fun _ _=>h⟩
 ·cases h
end
theorem Xk {E:cD} {I:ax} {R:Type} {K:St→Option R} {c:Code} {S:List Fr} {σ:St}:lH E I K c S σ=sU E (lH E) I K c S σ:=by
 refine Option.ext fun z=>⟨fun h => ?_,fun h => ?_⟩
 ·obtain⟨k,hk⟩:=vS.1 h
  have h1:=hk (k+1) (by omega)
  rw[oF] at h1
  obtain⟨_,h2⟩:=JN (rec':=fun _=>lH E) (fun _ _ _ _ _ _ _ h=>⟨0,fun _ _=>QS h⟩) h1
  exact h2 _ (aq_ _)
 ·obtain⟨k,hk⟩:=JN (rec':=fun m=>run E m) (fun _ _ _ _ _ _ _ h=>vS.1 h) h
  exact QS (k:=k+1) (by rw[oF]; exact hk k (aq_ _))
def UW (E:cD) (rc rec:nv) (I:ax) {R:Type} (K:St→Option R) (c:Code) (S:List Fr) (σ:St):Option R:=match c with
 | .region id ops draw=>cK {E with sub:=I.sub} (eV E rc) ops draw σ.nx ((bs_ ops.size).zip ops.toList) [] σ fun σ'=>uq rec I K S {σ' with nx:=σ.nx+64*ops.size}
 | _=>none
theorem YT : ∃ f:(E:cD)→(rc:nv)→(I:ax)→(R:Type)→(St→Option R)→Code→List Fr→St→Option R,∀ E rc I R K c S σ,f E rc I R K c S σ=UW E rc rc I K c S σ :=
 ⟨fun E rc I R K c S σ=>UW E rc rc I K c S σ,fun _ _ _ _ _ _ _ _=>rfl⟩
noncomputable def pt (E:cD) (rc:nv) (I:ax) {R:Type} (K:St→Option R) (c:Code) (S:List Fr) (σ:St):Option R:=Classical.choose YT E rc I R K c S σ
theorem YU {E:cD} {rc:nv} {I:ax} {R:Type} {K:St→Option R} {c:Code} {S:List Fr} {σ:St}:pt E rc I K c S σ=UW E rc rc I K c S σ:=Classical.choose_spec YT E rc I R K c S σ
noncomputable def LR (E:cD) (rc rec:nv):nv:=fun I _ K c S σ=>match c with
 | .skip=>uq rec I K S σ
 | .region id ops draw=>match dh I.live id with
  | some l=>pt E rc I K (.region id ops draw) S (norm l σ)
  | none=>UW E rc rec I K (.region id ops draw) S σ
 | .seq a b=>rec I K a (.seq b :: S) σ
 | .cond c a b=>match ev σ.slots c with
  | .val .bool x=>if x=true then rec I K a S σ else rec I K b S σ
  | _=>none
 | .block id b=>rec I K b (.block id :: S) σ
 | .loop b=>rec I K b (.loop b :: S) σ
 | .exit id=>match zo I id S with | some S'=>rec I K .skip S' σ | none=>none
 | .ret=>K σ
 | _=>none
noncomputable def LS (E:cD) (rc:nv) (n:Nat):nv:=Nat.rec rc (fun _ rec=>LR E rc rec) n
theorem Xl {E:cD}:LR E (lH E) (lH E)=lH E:=by
 funext I R K c S σ
 rw[Xk]
 unfold LR sU
 cases c <;> try rfl
 rename_i id ops draw
 dsimp only
 cases dh I.live id with
 | none=>rfl
 | some l=>exact YU
theorem E0 {E:cD} : ∀ n,LS E (lH E) n=lH E
 | 0=>rfl
 | n+1=>by
  show LR E (lH E) (LS E (lH E) n)=_
  rw[E0 n,Xl]
noncomputable def ai (E:cD) (I:ax) (args:List SV) (tab:aM):Option (I.sh.den×I.bx.den):=eV E (lH E) I args tab
theorem aC {E:cD} {I:ax} {args:List SV} {tab:aM} {z:Option (I.sh.den×I.bx.den)} (h:eV E (LS E (lH E) 4000) I args tab=z:=by kernel_rfl):ai E I args tab=z:=by
 rw[←h,E0]
 rfl
theorem bn {E:cD} {I:ax} {R:Type} {K:St→Option R} {c:Code} {S:List Fr} {σ:St} {z:Option R} (h:UW E (lH E) (LS E (lH E) 4000) I K c S σ=z:=by kernel_rfl):pt E (lH E) I K c S σ=z:=by
 rw[←h,E0]
 exact YU
theorem uA.ofL {E:cD} {I:ax} {args:List SV} {tab:aM} {z:I.sh.den×I.bx.den} (h:ai E I args tab=some z):uA E I args tab z:=by
 unfold ai eV at h
 unfold uA call eV
 split at h
 ·exact⟨0,fun _ _=>h⟩
 ·exact vS.1 h
end Go.Proofs.YthbkdfcmjmmpgaaGreatDoor.Abs
namespace Go.Proofs.YthbkdfcmjmmpgaaGreatDoor.Abs
open Go
section
variable {α β:Type}
def ix (xs:List α) (i:Int) (d:α) (f:α→Option β):Option β:=if 0≤i then(if i < (xs.length:Int) then f (xs.getD i.toNat d) else none) else none
def inb (xs:List α) (i:Int) (k:Option β):Option β:=if 0≤i then(if i < (xs.length:Int) then k else none) else none
def eE (s:aa_) (i:Int) (f:Int→Option β):Option β:=if 0≤i then(if i < (s.size:Int) then f (bt s i) else none) else none
def JO (n:Int) (b:Nat) (d:α) (f:List α→Option β):Option β:=if 0≤n then(if n.toNat*b≤140737488355328 then f (bl_ n.toNat d) else none) else none
def cats (a b:aa_) (f:aa_→Option β):Option β:=if a.size+b.size≤9223372036854775807 then f (a++b) else none
def app (a b:List α) (n:Nat) (f:List α→Option β):Option β:=if(a.length+b.length)*n≤140737488355328 then f (a++b) else none
def DY (s:aa_) (h:Int) (f:aa_→Option β):Option β:=if 0≤h then(if h≤(s.size:Int) then f (s.extract 0 h.toNat) else none) else none
def ji (s:aa_) (l:Int) (f:aa_→Option β):Option β:=if 0≤l then(if l≤(s.size:Int) then f (s.extract l.toNat s.size) else none) else none
def vU (s:aa_) (l h:Int) (f:aa_→Option β):Option β:=if 0≤h then(if h≤(s.size:Int) then(if 0≤l then(if l≤h then f (s.extract l.toNat h.toNat) else none) else none) else none) else none
def MG (xs:List α) (h:Int) (f:List α→Option β):Option β:=if 0≤h then(if h≤(xs.length:Int) then f (xs.take h.toNat) else none) else none
def QT (xs:List α) (l:Int) (f:List α→Option β):Option β:=if 0≤l then(if l≤(xs.length:Int) then f (xs.drop l.toNat) else none) else none
def sV (d:α) (xs:List α) (i:Int) (f:α→α) (k:List α→β):β:=k (xs.set i.toNat (f (xs.getD i.toNat d)))
def nz (b:Int) (k:Option β):Option β:=if b=0 then none else k
end
def Su:Nat→Nat→List Nat→List Nat
 | 0,_,l=>l
 | k+1,n,l=>match Nat.ble n 1 with
  | true=>l
  | false=>Su k (n / 2) (n % 2 :: l)
def JP (c:Code) (l:List Nat) (S:List Fr):Code×List Fr:=match l with
 | []=>(c,S)
 | i :: l=>match c,i with
  | .seq a b,0=>JP a l (.seq b :: S)
  | .seq _ b,1=>JP b l S
  | .cond _ a _,0=>JP a l S
  | .cond _ _ b,1=>JP b l S
  | .block id b,0=>JP b l (.block id :: S)
  | .loop b,0=>JP b l (.loop b :: S)
  | _,_=>(.skip,[])
noncomputable abbrev bo (E:cD) (I:ax) (tab:aM) (c:Code) (n:Nat) (σ:St):Option (I.sh.den×I.bx.den):=pt E (lH E) I (iC E I tab) (JP c (Su 200 n []) []).1 (JP c (Su 200 n []) []).2 σ
abbrev af (x:Int):SV := .val (.int .i64) x
abbrev cL (x:Bool):SV := .val .bool x
abbrev aY (x:aa_):SV := .val .str x
abbrev aa:SV := .undef
abbrev ao (g:Nat) (fn:Func) (sh bx:Sh) (own:List Bool) (live:List (Nat×List Nat)):ax:={g,fn,sh,bx,own,live}
theorem wr {n:Int} (h0 : -9223372036854775808≤n) (h1:n≤9223372036854775807):IntKind.i64.wrap n=n:=by
 simp only[IntKind.wrap,IntKind.bits,IntKind.signed]
 simp
 omega
theorem toList_inj {a b:aa_} (h:a.toList=b.toList):a=b:=by
 rw[ByteArray.toList_eq,ByteArray.toList_eq] at h
 cases a
 cases b
 congr
 exact dv_.1 h
@[simp] theorem so {a b:aa_}:(ag_ a == ag_ b)=decide (a=b):=by
 by_cases h:a=b
 ·subst h
  simp
 ·rw[decide_eq_false h]
  have:ag_ a≠ag_ b:=fun e=>h (toList_inj e)
  simpa using this
def JQ (a b:aa_):Bool:=Op.bytesLess (ag_ a) (ag_ b)
theorem eX {α:Type} {l r:List α} {y d:α}:List.getD (l++y :: r) (Int.toNat (l.length:Int)) d=y:=by
 simp[List.getD_eq_getElem?_getD]
theorem UX {α:Type} {l r:List α} {y z:α}:List.set (l++y :: r) (Int.toNat (l.length:Int)) z=l++z :: r:=by
 simp
theorem Xm {α:Type} {l:List α} {y:α}:((l.length:Nat):Int)+1=((l++[y]).length:Int):=by simp
theorem MH {α:Type} {l r:List α} {y:α}:((l.length:Nat):Int) < ((l++y :: r).length:Int):=by
 simp only[ae_,ak_]
 omega
theorem LU {n:Nat} (h:n≤4398046511104):n*32≤140737488355328:=bn_ (Nat.mul_le_mul_right 32 h) (by decide)
theorem nn (n:Nat):(0:Int)≤(n:Int):=Int.natCast_nonneg n
theorem Ev.val {R:Type} {x z:R} (h:x=z):Ev (fun _=>some x) z:=h ▸ Ev.now
theorem rQ {α:Type} [Inhabited α] {lt:α→α→Bool} (h:Sort.SWO lt) (xs:List α):(dC lt xs).Perm xs:=by
 have:=(Sort.pdq_sorts lt h xs.toArray 0 xs.toArray.size (fh_ xs.toArray.size) true true (dd_ _) (aq_ _) (.inl rfl)).1
 obtain⟨h1,_,h2⟩:=this
 unfold dC
 have e1 : ∀(A:Array α) (n:Nat),A.size=n→(A.extract 0 n).toList=A.toList:=by
  rintro A n rfl
  simp
 rw[e1 _ _ h1,e1 _ _ rfl] at h2
 exact h2
theorem Gi {α:Type} [Inhabited α] {lt:α→α→Bool} (h:Sort.SWO lt) (xs:List α):(dC lt xs).length=xs.length:=(rQ h xs).length_eq
theorem AY {α:Type} [Inhabited α] {lt:α→α→Bool} (h:Sort.SWO lt) (xs:List α):(dC lt xs).Pairwise fun a b=>lt b a=false:=by
 have h0:=Sort.pdq_sorts lt h xs.toArray 0 xs.toArray.size (fh_ xs.toArray.size) true true (dd_ _) (aq_ _) (.inl rfl)
 obtain⟨⟨h1,_⟩,h2⟩:=h0
 rw[List.pairwise_iff_getElem]
 intro i j hi hj hij
 unfold dC at hi hj ⊢
 have:=h2 i j (dd_ _) hij (by rw[←h1]; simpa using hj)
 rw[getElem!_pos _ i (by simpa using hi),getElem!_pos _ j (by simpa using hj)] at this
 simpa using this
theorem DZ {α:Type} {lt:α→α→Bool} : ∀ {l m:List α},l.Perm m→(l.Pairwise fun a b=>lt b a=false)→(m.Pairwise fun a b=>lt a b=true)→l=m
 | [],m,hp,_,_=>(List.nil_perm.1 hp).symm
 | x :: l,m,hp,hl,hm=>by
  obtain⟨m1,m2,rfl⟩:=List.append_of_mem (hp.subset (List.mem_cons_self (a:=x)))
  have hp':l.Perm (m1++m2):=(List.perm_cons x).1 (hp.trans List.perm_middle)
  cases m1 with
  | nil =>
   have:=DZ hp' (bq_.1 hl).2 (bq_.1 hm).2
   rw[this]
   rfl
  | cons y m1 =>
   have h1:lt y x=true:=(bq_.1 hm).1 x (by simp)
   have h2:lt y x=false:=(bq_.1 hl).1 y (hp'.symm.subset (by simp))
   rw[h1] at h2
   cases h2
open Go Go.RowKit Go.ChangeShapes Go.WideShapes
def BP:(t:Ty)→t.den→Prop
 | .int k,n=>(Lit.int k n).wf=true
 | .bool,_=>True
 | .err,_=>True
 | .fn,_=>True
 | .pt,_=>True
 | .bp _,_=>True
 | .str,s=>(s:aa_).size≤maxLen
 | .unit,_=>True
 | .pair a b,x=>BP a x.1∧BP b x.2
 | .agg t,x=>BP t x
 | .slice _ t,xs=>(xs:List t.den).length≤maxLen ∧ ∀ x∈(xs:List t.den),BP t x
def Gj (P:Program) (g:TypeId→Ty→Bool):List Field→Ty→Nat→Bool
 | [],.unit,_=>true
 | f :: fs,.pair a b,o=>cp_ f.offset o && cp_ (P.cellsOf f.type) a.sz && g f.type a && Gj P g fs b (o+a.sz)
 | _,_,_=>false
def gK (P:Program):Nat→TypeId→Ty→Bool
 | 0,_,_=>false
 | _+1,T,.int k=>match P.underlying T with | some (.int k')=>decide (k'=k) | _=>false
 | _+1,T,.bool=>match P.underlying T with | some .bool=>true | _=>false
 | _+1,T,.str=>match P.underlying T with | some .string=>true | _=>false
 | d+1,T,.slice e t=>match P.underlying T with | some (.slice e')=>cp_ e' e && cp_ (P.cellsOf e) t.sz && Nat.blt 0 t.sz && gK P d e t | _=>false
 | d+1,T,.agg t=>match P.underlying T with
  | some (.struct fs)=>cp_ (P.cellsOf T) t.sz && Gj P (gK P d) fs.toList t 0
  | _=>false
 | _,_,_=>false
theorem JR {α:Type} {Q:Nat→α→Prop} : ∀(n:Nat),(∀ i,i < n → ∃ y,Q i y) → ∃ ys:List α,ys.length=n ∧ ∀ i (h:i < ys.length),Q i ys[i]
 | 0,_=>⟨[],rfl,fun i h=>by simp at h⟩
 | n+1,h=>by
  obtain⟨ys,h1,h2⟩:=JR n (fun i hi=>h i (by omega))
  obtain⟨y,hy⟩:=h n (by omega)
  refine⟨ys++[y],by simp[h1],fun i hi => ?_⟩
  by_cases hin:i < ys.length
  ·rw[List.getElem_append_left hin]
   exact h2 i hin
  ·rw[ae_,List.length_singleton] at hi
   have:i=n:=by omega
   subst this
   rw[List.getElem_append_right (by omega)]
   simpa[h1] using hy
section
variable {H:Type} {enc:TypeId×Value→H} {P:Program} {w:World} {base:Nat} {sp:Nat→Bool} {held:Bool}
theorem MI {g:TypeId→Ty→Bool} {n:Nat} (hg : ∀ T t,g T t=true → ∀ cs x,DataW.trod enc P w base sp held n T cs=some x → ∃ y:t.den,RK (DT w) t y cs∧BP t y) :
  ∀ {fs:List Field} {t:Ty} {o:Nat} {cs:List Value},Gj P g fs t o=true→cs.length=o+t.sz→(∀ f∈fs,∃ x,DataW.trod enc P w base sp held n f.type ((cs.drop f.offset).take (P.cellsOf f.type))=some x) → ∃ y:t.den,RK (DT w) t y (cs.drop o)∧BP t y
 | [],.unit,o,cs,_,hl,_=>⟨(),by
   show cs.drop o=[]
   exact List.drop_eq_nil_of_le (by rw[hl]; exact aq_ _),trivial⟩
 | f :: fs,.pair a b,o,cs,h,hl,hf=>by
  simp only[Gj,ah_] at h
  obtain⟨⟨⟨h1,h2⟩,h3⟩,h4⟩:=h
  have h1:=br_ h1
  have h2:=br_ h2
  obtain⟨x,hx⟩:=hf f (by simp)
  rw[h1,h2] at hx
  obtain⟨y1,k1,m1⟩:=hg f.type a h3 _ _ hx
  have hl':cs.length=o+a.sz+b.sz:=by
   rw[hl,dh_]
   rfl
  obtain⟨y2,k2,m2⟩:=MI hg (fs:=fs) (t:=b) (o:=o+a.sz) (cs:=cs) h4 hl' (fun f hf'=>hf f (ar_ _ hf'))
  refine⟨(y1,y2),⟨(cs.drop o).take a.sz,cs.drop (o+a.sz),?_,k1,k2⟩,m1,m2⟩
  rw[←List.drop_drop,List.take_append_drop]
 | [],.int _,_,_,h,_,_=>by cases h
 | [],.bool,_,_,h,_,_=>by cases h
 | [],.err,_,_,h,_,_=>by cases h
 | [],.fn,_,_,h,_,_=>by cases h
 | [],.pt,_,_,h,_,_=>by cases h
 | [],.bp _,_,_,h,_,_=>by cases h
 | [],.str,_,_,h,_,_=>by cases h
 | [],.pair _ _,_,_,h,_,_=>by cases h
 | [],.agg _,_,_,h,_,_=>by cases h
 | [],.slice _ _,_,_,h,_,_=>by cases h
 | _ :: _,.int _,_,_,h,_,_=>by cases h
 | _ :: _,.bool,_,_,h,_,_=>by cases h
 | _ :: _,.err,_,_,h,_,_=>by cases h
 | _ :: _,.fn,_,_,h,_,_=>by cases h
 | _ :: _,.pt,_,_,h,_,_=>by cases h
 | _ :: _,.bp _,_,_,h,_,_=>by cases h
 | _ :: _,.str,_,_,h,_,_=>by cases h
 | _ :: _,.unit,_,_,h,_,_=>by cases h
 | _ :: _,.agg _,_,_,h,_,_=>by cases h
 | _ :: _,.slice _ _,_,_,h,_,_=>by cases h
theorem Ia : ∀(d:Nat) (T:TypeId) (t:Ty),gK P d T t=true → ∀(fuel:Nat) (cs:List Value) (x:DataW H×List MemPlace),DataW.trod enc P w base sp held fuel T cs=some x → ∃ y:t.den,RK (DT w) t y cs∧BP t y
 | 0,_,_,h,_,_,_,_=>by simp[gK] at h
 | d+1,T,.int k,h,fuel,cs,x,hx=>by
  unfold gK at h
  split at h
  ·rename_i k' hu
   have:=dx_ h
   subst this
   obtain⟨n,rfl,_,hw⟩:=DataW.trod_int hu hx
   exact⟨n,rfl,hw⟩
  ·cases h
 | d+1,T,.bool,h,fuel,cs,x,hx=>by
  unfold gK at h
  split at h
  ·rename_i hu
   obtain⟨b,rfl,_⟩:=DataW.trod_bool hu hx
   exact⟨b,rfl,trivial⟩
  ·cases h
 | d+1,T,.str,h,fuel,cs,x,hx=>by
  unfold gK at h
  split at h
  ·rename_i hu
   obtain⟨s,rfl,_,hw⟩:=DataW.trod_string hu hx
   exact⟨s,rfl,hw⟩
  ·cases h
 | d+1,T,.slice e t,h,fuel,cs,x,hx=>by
  unfold gK at h
  split at h
  ·rename_i e' hu
   simp only[ah_] at h
   obtain⟨⟨⟨h1,h2⟩,h3⟩,h4⟩:=h
   have h1:=br_ h1
   subst h1
   have h2:=br_ h2
   have h3:0 < t.sz:=by simpa[Nat.blt_eq] using h3
   rcases DataW.trod_slice hu hx with⟨rfl,_⟩ | ⟨a,len,cap,elems,rest,n,rfl,rfl,rfl,hb,hle,hmax,hlen,hel,_⟩
   ·exact⟨([]:List t.den),⟨none,0,rfl,aq_ _,fun h=>bk_ rfl h⟩,dd_ _,fun x hx=>by cases hx⟩
   ·have each : ∀ i,i < len → ∃ y:t.den,BP t y ∧ ∃ c,RK (DT w) t y c∧c.length=t.sz ∧ ∀ j,j < t.sz→w.cell? ((a.add (i*t.sz)).add j)=c[j]? := by
     intro i hi
     have h5:=hel i hi
     rw[as_ (by omega),am_,h2] at h5
     obtain⟨c,h6,h7⟩:=h5
     obtain⟨_,h8,h9⟩:=World.cells?_some h6
     obtain⟨y,h10,h11⟩:=Ia d e' t h4 _ _ _ h7
     exact⟨y,h11,c,h10,h8,h9⟩
    obtain⟨ys,hyl,hy⟩:=JR len each
    have hyl':len=ys.length:=hyl.symm
    subst hyl'
    refine⟨ys,⟨some a,cap,rfl,hle,fun hne => ?_⟩,bn_ hle hmax,fun y hyy => ?_⟩
    ·have hpos:0 < ys.length:=by
      cases ys with
      | nil=>exact bk_ rfl hne
      | cons _ _=>simp
     obtain⟨_,c0,_,hcl,hcc⟩:=hy 0 hpos
     have hsp:a.spot=none:=by
      have:=hcc 0 h3
      rw[as_ (by omega)] at this
      unfold World.cell? at this
      split at this
      ·cases hs:a.spot with
       | none=>rfl
       | some z =>
        simp[Addr.add,hs] at this
      ·cases this
     obtain⟨b,o,s⟩:=a
     simp only at hsp
     subst hsp
     refine⟨b,o,rfl,fun i hi => ?_⟩
     obtain⟨_,c,k1,k2,k3⟩:=hy i hi
     refine⟨c,k1,fun j v hj=>⟨trivial,?_⟩⟩
     have hjl:j < t.sz:=by
      rw[←k2]
      exact(ax_.1 hj).1
     have:=k3 j hjl
     rw[hj,gI,gI] at this
     exact this
    ·obtain⟨i,hi,he⟩:=dj_ hyy
     rw[←he]
     exact(hy i hi).1
  ·cases h
 | d+1,T,.agg t,h,fuel,cs,x,hx=>by
  unfold gK at h
  split at h
  ·rename_i fs hu
   simp only[ah_] at h
   have h1:=br_ h.1
   obtain⟨xs,n,rfl,rfl,hl,hxl,hf⟩:=DataW.trod_struct hu hx
   have:=MI (g:=gK P d) (n:=n) (fun T t hT cs x hx=>Ia d T t hT n cs x hx) (cs:=cs) h.2 (by rw[hl,h1,cv_]) (fun f hfm=>by
    obtain⟨i,hi,he⟩:=dj_ hfm
    have hi':i < fs.size:=by simpa using hi
    have:=hf i f (by rw[cn_ hi']; simpa using he)
    rw[as_ (by omega)] at this
    exact⟨_,this⟩)
   obtain⟨y,h3,h4⟩:=this
   exact⟨y,h3,h4⟩
  ·cases h
 | d+1,T,.unit,h,_,_,_,_=>by simp[gK] at h
 | d+1,T,.err,h,_,_,_,_=>by simp[gK] at h
 | d+1,T,.fn,h,_,_,_,_=>by simp[gK] at h
 | d+1,T,.pt,h,_,_,_,_=>by simp[gK] at h
 | d+1,T,.bp _,h,_,_,_,_=>by simp[gK] at h
 | d+1,T,.pair _ _,h,_,_,_,_=>by simp[gK] at h
theorem Xn {d:Nat} {T:TypeId} {t:Ty} (h:gK P d T t=true) {r:Reach} {v:Value} (hv:Value.okWide P w r base T v):v=mk t v.cells.toList:=by
 cases d with
 | zero=>simp[gK] at h
 | succ d =>
  unfold gK at h
  cases t with
  | int k =>
   simp only at h
   split at h
   ·rename_i hu
    obtain⟨n,rfl⟩:=okWide_int hu hv
    rfl
   ·cases h
  | bool =>
   simp only at h
   split at h
   ·rename_i hu
    obtain⟨b,rfl⟩:=okWide_bool hu hv
    rfl
   ·cases h
  | str =>
   simp only at h
   split at h
   ·rename_i hu
    obtain⟨s,rfl⟩:=okWide_string hu hv
    rfl
   ·cases h
  | slice e t =>
   simp only at h
   split at h
   ·rename_i hu
    obtain⟨a,l,c,rfl⟩:=okWide_slice hu hv
    rfl
   ·cases h
  | agg t =>
   simp only at h
   split at h
   ·rename_i hu
    obtain⟨cs,rfl,_⟩:=okWide_struct hu hv
    show Value.agg cs = .agg cs.toList.toArray
    simp
   ·cases h
  | unit=>simp at h
  | err=>simp at h
  | fn=>simp at h
  | pt=>simp at h
  | bp _=>simp at h
  | pair a b=>simp at h
theorem aaA {d:Nat} {T:TypeId} {t:Ty} (h:gK P d T t=true) {r:Reach} {v:Value} {x:DataW H} {ps:List MemPlace} (hv:Value.okWide P w r base T v) (hx:DataW.Trod enc P w 0 sp held T v x ps) : ∃ y:t.den,BP t y∧v=mk t v.cells.toList∧RK (DT w) t y v.cells.toList:=by
 obtain⟨fuel,hx⟩:=hx
 obtain⟨y,h1,h2⟩:=Ia d T t h fuel _ _ hx
 exact⟨y,h2,Xn h hv,h1⟩
end
abbrev Gk (w:World) (b o:Nat):Prop := ∃ v,w.cell? ⟨b,o,none⟩=some v
theorem UY {w:World} {args:List SV} {us:List Value} (h:cw (Ln (Gk w) w) (fun _=>none) args us):bF w (nj [] fun _=>none) (Gk w) args (aL []) (fun _=>none) (Gk w) {tmps:=us.toArray,defers:=[]} w:=by
 refine⟨h,rfl,(fun r e t v h=>by cases h),(fun r b t h=>by cases h),(fun r x h=>by cases h),(fun r r' x x' b h=>by cases h),(fun r x b h=>by cases h),(fun r x b h=>by cases h),fun _ _ _=>rfl,aq_ _,rfl,rfl,rfl,?_,fun _ _ _ _ h=>h,fun _ _ _ h=>h⟩
 rintro b o ⟨v,hv⟩
 unfold World.cell? at hv
 split at hv
 ·rename_i h
  exact(ca_.1 h).1
 ·cases hv
theorem aaB {w:World} {t:Ty} {y:t.den} {v:Value} (h1:v=mk t v.cells.toList) (h2:RK (DT w) t y v.cells.toList):RV (Ln (Gk w) w) (fun _=>none) (.val t y) v:=by
 rw[h1]
 exact .val (gH (fun b o v h=>⟨⟨v,h.2⟩,h.2⟩) h2)
theorem UZ {P:Program} {E:cD} {Gp:WP} (hst:F6 Gp) (hm:P.follows .mixedOrders=true) (hE:fI P E) (hP:xS Gp P E) {I:ax} {key:Nat} (hg:dh E.fns key=some I) {args:List SV} {z:I.sh.den×I.bx.den} (h:uA E I args [] z)
  (h1:b7 I.sh z.1 0=([.val .bool true],[],0)) (h2:b7 I.bx z.2 0=([],[],0)) (h3:cB I.rb [] [] (rJ I.bx)=some []) {w:World} {us:List Value} (hGp:Gp w (nj [] fun _=>none)) (hu:cw (Ln (Gk w) w) (fun _=>none) args us) :
  Calls P I.g us.toArray w fun e w'=>e = .returned (.bool true)∧Below w.heap.size w w':=by
 have:=h.calls hst hm hE hP hg (fun k p hp=>by simp at hp) hGp (UY hu) (fun _ _=>rfl) (N:=0) (dd_ _) h1 h2 h3
 refine this.mono ?_
 rintro e w' ⟨vals,γr,Pr',rfl,hB,_⟩
 have hv:=hB.vals
 cases hv with
 | cons hv hk =>
  cases hk
  have:=iG hv
  subst this
  refine⟨rfl,hB.os,hB.tape,hB.output,hB.size,fun k hk=>hB.frame k hk ?_⟩
  rintro⟨j,x,hj,_⟩
  cases hj
end Go.Proofs.YthbkdfcmjmmpgaaGreatDoor.Abs
namespace Go.Proofs.YthbkdfcmjmmpgaaGreatDoor.Abs
open Go Go.RowKit
def fZ:(t:Ty)→t.den→List Value
 | .int k,n=>[.int k n]
 | .bool,b=>[.bool b]
 | .err,_=>[]
 | .fn,_=>[]
 | .pt,_=>[]
 | .bp _,_=>[]
 | .str,s=>[.string s]
 | .unit,_=>[]
 | .pair a b,x=>fZ a x.1++fZ b x.2
 | .agg t,x=>fZ t x
 | .slice _ _,_=>[]
theorem pY {L:Lk} : ∀ {t:Ty} {x:t.den} {cs:List Value},c8 t=true→(RK L t x cs↔cs=fZ t x)
 | .int k,n,cs,_=>Iff.rfl
 | .bool,b,cs,_=>Iff.rfl
 | .err,_,_,hn=>by cases hn
 | .fn,_,_,hn=>by cases hn
 | .pt,_,_,hn=>by cases hn
 | .bp _,_,_,hn=>by cases hn
 | .str,s,cs,_=>Iff.rfl
 | .unit,_,cs,_=>Iff.rfl
 | .pair a b,x,cs,hn=>by
  simp only[c8,ah_] at hn
  constructor
  ·rintro⟨c,d,rfl,h1,h2⟩
   rw[(pY hn.1).1 h1,(pY hn.2).1 h2]
   rfl
  ·rintro rfl
   exact⟨_,_,rfl,(pY hn.1).2 rfl,(pY hn.2).2 rfl⟩
 | .agg t,x,cs,hn=>pY (t:=t) hn
 | .slice _ _,_,_,hn=>by cases hn
theorem Dv {t:Ty} (hn:c8 t=true) (x:t.den):(fZ t x).length=t.sz:=ed (L:=fun _ _ _=>True) ((pY hn).2 rfl)
theorem QU {t:Ty} (hn:c8 t=true) (x:t.den) : ∀ v∈fZ t x,v.oneCell'=true:=nK (L:=fun _ _ _=>True) ((pY hn).2 rfl)
theorem QV {L:Lk} {t:Ty} (hn:c8 t=true) {xs:List t.den} {css:List (List Value)}:kw L t xs css↔css=xs.map (fZ t):=by
 constructor
 ·rintro⟨h1,h2⟩
  apply List.ext_getElem (by simp[h1])
  intro i h3 h4
  rw[List.getElem_map]
  exact(pY hn).1 (h2 i (by omega) h3)
 ·rintro rfl
  refine⟨by simp,fun i h h' => ?_⟩
  rw[List.getElem_map]
  exact(pY hn).2 rfl
theorem ab4 {w:World} {base:Nat} {e:TypeId} {size:Nat} {v:Value} {n:Nat} {xs:List Value} (h:w.ownsRow base e size v n xs):w.ownsRow 0 e size v n xs:=by
 refine⟨h.1,?_⟩
 rcases h.2 with h2 | ⟨g,cap,cur,h3,_,h4⟩
 ·exact .inl h2
 ·exact .inr ⟨g,cap,cur,h3,dd_ _,h4⟩
end Go.Proofs.YthbkdfcmjmmpgaaGreatDoor.Abs
namespace Go.Proofs.YthbkdfcmjmmpgaaGreatDoor.Abs
open Go Go.RowKit
def Sv:(s:Sh)→s.den→List Value→Prop
 | .pair (.val t) b,x,us => ∃ cs us',us=mk t cs :: us'∧RK (fun _ _ _=>False) t x.1 cs∧Sv b x.2 us'
 | .unit,_,us=>us=[]
 | _,_,_=>False
theorem D0 {γ:Nat→Option G} : ∀ {s:Sh} {x:s.den} {us:List Value} (n:Nat),Sv s x us → ∃ vs,b7 s x n=(vs,[],n)∧cw (fun _ _ _=>False) γ vs us
 | .pair (.val t) b,x,us,n,h=>by
  obtain⟨cs,us',rfl,hk,h⟩:=h
  obtain⟨vs,h1,h2⟩:=D0 (γ:=γ) (s:=b) (x:=x.2) n h
  refine⟨.val t x.1 :: vs,?_,.cons (.val hk) h2⟩
  show(let (v,u,m):=aO (.val t) x.1 n; let (l,u',m'):=aO.go b x.2 m; (v :: l,u++u',m'))=_
  have h1:aO.go b x.2 n=(vs,[],n):=h1
  simp only[aO,h1,bx_]
 | .unit,x,us,n,h=>⟨[],rfl,by rw[show us=[] from h]; exact .nil⟩
 | .val _,_,_,_,h=>h.elim
 | .row _ _ _,_,_,_,h=>h.elim
 | .strct _,_,_,_,h=>h.elim
 | .ptr _,_,_,_,h=>h.elim
 | .pair .unit _,_,_,_,h=>h.elim
 | .pair (.row _ _ _) _,_,_,_,h=>h.elim
 | .pair (.pair _ _) _,_,_,_,h=>h.elim
 | .pair (.strct _) _,_,_,_,h=>h.elim
 | .pair (.ptr _) _,_,_,_,h=>h.elim
theorem kL {Gp:WP} {P:Program} {g:Nat} {fn:Func} {sh:Sh} {own:List Bool} {live:List (Nat×List Nat)} {pr:Option (List SV→aM→Option (sh.den×Sh.unit.den))} {args:List SV} {z:sh.den×Sh.unit.den} (hz : ∀ n,(b7 sh z.1 n).2=([],n))
  (hcall : ∀(w:World) (Pr:Nat→Nat→Prop) (γ:Nat→Option G) (us:List Value),Gp w (fun _=>False)→(∀ b o,Pr b o→b < w.heap.size)→cw (Ln Pr w) γ args us→Calls P g us.toArray w fun e w' => ∃ us',e = .returned (BI us')∧Sv sh z.1 us'∧Below w.heap.size w w') (hst : ∀ w X,Gp w X→Gp w fun _=>False) :
  eA Gp P {g:=g,fn:=fn,sh:=sh,bx := .unit,own:=own,live:=live,prim:=pr} args [] z:=by
 intro hcanon w γ Pr us hG hI hlim N hN vs u n bs u' n' ub hm1 hm2 hub
 have hu:=hz N
 rw[show b7 sh z.1 N=(vs,u,n) from hm1] at hu
 obtain⟨rfl,rfl⟩:=Prod.mk.inj hu
 cases hm2
 cases hub
 refine(hcall w _ γ us (hst _ _ hG) hI.prIn hI.slots).mono ?_
 rintro e w' ⟨us',rfl,hf,hB⟩
 obtain⟨vs',hv1,hv2⟩:=D0 (γ:=fun _=>none) n hf
 rw[show b7 sh z.1 n=(vs,[],n) from hm1] at hv1
 cases hv1
 refine⟨_,fun _=>none,Pr,rfl,⟨gV (fun _ _ _ h=>h.elim) (fun _ _ h=>h) hv2,?_,?_,?_,?_,?_,?_,?_,?_,?_,hB.size,hB.os,hB.tape,hB.output,?_,?_,?_⟩,?_⟩
 ·intro r g h; cases h
 ·intro j t c h; simp at h
 ·intro r x h; cases h
 ·intro r r' x x' b h; cases h
 ·intro j t c b h; simp at h
 ·intro j t c b h; simp at h
 ·intro r x b h; cases h
 ·intro r x b h; cases h
 ·exact fun k hk _=>hB.block k hk
 ·exact fun b o ho=>cl_ (hI.prIn b o ho) hB.size
 ·exact fun b hb hx o ho=>ho
 ·intro b o v hv
  refine⟨hv.1,?_⟩
  rw[World.cell?_of_block (hB.block b (hI.prIn b o hv.1))]
  exact hv.2
 ·intro p hp
  cases hp
abbrev iI:=String×(Array Value→Prop)
def gt (P:Program) (l:List iI):WP:=fun w X => ∀ p∈l,(∃ a,w.var? P p.1=some a∧p.2 a) ∧ ∀ g,P.globalNamed p.1=some g → ¬X g
theorem gt.stable {P:Program} {l:List iI}:F6 (gt P l):=by
 intro w0 X w X' h k p hp
 obtain⟨⟨a,h1,h0⟩,h2⟩:=h p hp
 unfold World.var? at h1 ⊢
 cases hg:P.globalNamed p.1 with
 | none=>rw[hg] at h1; cases h1
 | some g =>
  rw[hg] at h1
  simp only[ab_] at h1 ⊢
  have hlt:g < w0.heap.size:=by
   rcases Nat.lt_or_ge g w0.heap.size with h | h
   ·exact h
   ·rw[ex_ h] at h1
    cases h1
  obtain⟨_,k2,k3⟩:=k g hlt (h2 g hg)
  rw[k3]
  exact⟨⟨a,h1,h0⟩,fun g' hg'=>by cases hg'; exact k2⟩
theorem gt.none {P:Program} {l:List iI} {w:World} {X:Nat→Prop} (h:gt P l w X):gt P l w fun _=>False :=
 fun p hp=>⟨(h p hp).1,fun _ _ h=>h⟩
theorem MJ {c:aa_} (h:uB c=true):c.size < 4294967281 ∧ ∀(j:Nat) b,c.data.toList[j]? = some b→b.toNat < 128:=by
 unfold uB at h
 simp only[ah_,ai_,ck_] at h
 exact⟨by omega,fun j b hj=>h.2 b (cg_ hj)⟩
def xU (n:String):iI:=(n,fun a => ∃ m,a[0]? = some (.int .i64 m))
def Gl (n:String):iI:=(n,fun a => ∃ tp p,a = #[.iface tp p])
theorem D1 {P:Program} {l:List iI} {w:World} {n:String} {g:Nat} (h:gt P l w fun _=>False) (hm:xU n∈l) (hg:P.globalNamed n=some g) : ∃ m,w.cell? ⟨g,0,Option.none⟩=some (.int .i64 m):=by
 obtain⟨⟨a,h1,m,h2⟩,_⟩:=h _ hm
 refine⟨m,?_⟩
 have:=World.var?_cell hg h1 0
 rw[this]
 exact h2
theorem U0 {P:Program} {w:World} {n:String} {g:Nat} (hg:P.globalNamed n=some g) (h : ∃ m,w.cell? ⟨g,0,Option.none⟩=some (.int .i64 m)) : ∃ a,w.var? P (xU n).1=some a∧(xU n).2 a:=by
 obtain⟨m,h⟩:=h
 unfold World.cell? at h
 split at h
 ·rename_i c t z hc
  refine⟨c,?_,m,h⟩
  show World.var? P w n=some c
  unfold World.var?
  rw[hg]
  simp only[ab_,hc]
 ·cases h
end Go.Proofs.YthbkdfcmjmmpgaaGreatDoor.Abs
