/- Regions whose operations may stand in other orders. -/
import Derived.Test.YthbkdfcmjmmpgaaGreatDoorZA2
import Derived.LoopN
import Derived.Sort.AssemblyPlain
import Derived.Lib.BitFns
import Derived.Lib.ItoaNum
import Derived.Lib.SlTrimSet
import Derived.Lib.IndexMore
import Derived.Lib.Split
import Derived.Lib.Replace
import Derived.Lib.Join
import Derived.Lib.ParseIntB
import Derived.Lib.Strings
import Derived.Sort.Walk0
import Derived.ChangeArms
import Derived.DataReads
import Derived.WideShapes
import Derived.Carry
import Derived.OpenShut
import Derived.LaidLaws
import Derived.LaidHandle
import Derived.LaidMore
import Derived.Lib.LaidTab
import Derived.Below
set_option linter.unusedVariables false
set_option linter.unusedSimpArgs false
set_option linter.unusedSectionVars false
open Array renaming getD_eq_getD_getElem?→da_,getElem?_eq_getElem→cw_,getElem?_eq_none→ex_,getElem?_eq_some_iff→cg_,getElem?_toList→dj_,size_push→gx_,toList_inj→ec_
open Bool renaming and_eq_true→ag_,not_eq_true'→dr_,not_true→bc_,or_eq_false_iff→gu_
open ByteArray renaming toList→ah_
open Go.Lib renaming bitLen→fk_
open Go.Result renaming andThen_ok→au_
open Go.Sem renaming run_bind→bg_,run_pure→bk_
open List renaming all_eq_true→cl_,append_nil→bv_,eq_nil_of_length_eq_zero→cc_,foldl_cons→en_,getElem?_append_left→bz_,getElem?_append_right→do_,getElem?_eq_getElem→as_,getElem?_eq_some_iff→ax_,getElem_of_mem→dk_,length_append→af_,length_cons→aj_,map_cons→dc_,mem_append_left→cq_,mem_append_right→ct_,mem_append→bo_,mem_cons_of_mem→ar_,mem_cons→bi_,mem_map_of_mem→ee_,mem_of_getElem?→cd_,mem_range→dy_,mem_singleton→be_,nodup_cons→ev_,pairwise_cons→ce_,prefix_rfl→ga_,range→bs_,replicate→bn_
open List.cons renaming inj→fy_
open Nat renaming add_assoc→dq_,add_sub_cancel_left→fx_,add_zero→eg_,beq→db_,eq_of_beq_eq_true→br_,le_refl→aq_,le_trans→bq_,lt_of_lt_of_le→cv_,zero_add→dd_,zero_le→di_
open Option renaming bind_eq_some_iff→al_,bind_some→ab_,getD_some→de_
open Option.some renaming injEq→bd_,inj→ch_
open _root_ renaming ByteArray→aa_,absurd→bh_,decide_eq_true_eq→ai_,if_neg→ac_,if_pos→ae_,of_decide_eq_true→dx_
namespace Go.Proofs.YthbkdfcmjmmpgaaGreatDoor.Abs
open Go Go.RowKit
theorem aab {s:Nat} {e:Nat} {b:Nat} {a:Nat}:(s ||| 2 ^ e ||| b).testBit a=(s.testBit a || decide (e=a) || b.testBit a):=by
 simp[Nat.testBit_or,Nat.testBit_two_pow]
theorem Kq (g:Nat→Nat) (a:Nat) : ∀(l:List Edge) (s:Nat),(l.foldl (fun s e=>if Region.binds .any e then s ||| 2 ^ e.on ||| g e.on else s) s).testBit a=true→s.testBit a=true ∨ ∃ e∈l,Region.binds .any e=true∧(e.on=a∨(g e.on).testBit a=true)
 | [],s,h => .inl h
 | e :: l,s,h=>by
  rw[en_] at h
  rcases Kq g a l _ h with h | ⟨e',h1,h2⟩
  ·split at h
   ·rename_i hb
    rw[aab] at h
    simp only[Bool.or_eq_true,ai_] at h
    rcases h with(h | h) | h
    ·exact .inl h
    ·exact .inr ⟨e,by simp,hb,.inl h⟩
    ·exact .inr ⟨e,by simp,hb,.inr h⟩
   ·exact .inl h
  ·exact .inr ⟨e',ar_ _ h1,h2⟩
def GN (acc:Array Nat) (o:Oper):Nat:=o.after.foldl (fun s e=>if Region.binds .any e then s ||| 2 ^ e.on ||| acc.getD e.on 0 else s) 0
theorem Ex : ∀(l:List Oper) (acc:Array Nat),let r:=l.foldl (fun acc o=>acc.push (GN acc o)) acc
  r.size=acc.size+l.length∧(∀ k,k < acc.size→r[k]? = acc[k]?) ∧ ∀ k o,l[k]? = some o → ∃ acc',(∀ j,j < acc.size+k→acc'[j]? = r[j]?)∧acc'.size=acc.size+k∧r[acc.size+k]? = some (GN acc' o)
 | [],acc=>⟨by simp,fun k _=>rfl,fun k o h=>by simp at h⟩
 | o :: l,acc=>by
  obtain⟨h1,h2,h3⟩:=Ex l (acc.push (GN acc o))
  refine⟨by simp only[en_,h1,gx_,aj_]; omega,fun k hk => ?_,fun k o' hk => ?_⟩
  ·rw[en_,h2 k (by rw[gx_]; omega),Array.getElem?_push_lt hk,cw_ hk]
  ·rw[en_]
   cases k with
   | zero =>
    simp at hk
    subst hk
    refine⟨acc,fun j hj => ?_,rfl,?_⟩
    ·rw[h2 j (by rw[gx_]; omega),Array.getElem?_push_lt (by omega),cw_ (by omega)]
    ·rw[h2 (acc.size+0) (by rw[gx_]; omega)]
     simp
   | succ k =>
    obtain⟨acc',h4,h5,h6⟩:=h3 k o' (by simpa using hk)
    rw[gx_] at h4 h5 h6
    refine⟨acc',fun j hj=>h4 j (by omega),by omega,?_⟩
    rw[show acc.size+(k+1)=acc.size+1+k by omega]
    exact h6
theorem Vv {all:Array Oper} {a b:Nat} (h:((Region.before all).getD b 0).testBit a=true) : ∃ o,all[b]? = some o ∧ ∃ e∈o.after,Region.binds .any e=true∧(e.on=a∨(e.on < b∧((Region.before all).getD e.on 0).testBit a=true)):=by
 have hb:Region.before all=all.toList.foldl (fun acc o=>acc.push (GN acc o)) #[]:=by
  unfold Region.before
  rw[←Array.foldl_toList]
  rfl
 obtain⟨h1,_,h3⟩:=Ex all.toList #[]
 rw[←hb] at h1 h3
 have hlt:b < all.size:=by
  rcases Nat.lt_or_ge b all.size with h' | h'
  ·exact h'
  ·have:(Region.before all)[b]? = none:=ex_ (by rw[h1]; simpa using h')
   rw[da_,this] at h
   simp at h
 obtain⟨acc',h4,h5,h6⟩:=h3 b all[b] (by rw[dj_]; exact cw_ hlt)
 simp only[Array.size_empty,dd_] at h4 h5 h6
 refine⟨all[b],cw_ hlt,?_⟩
 rw[da_,h6,de_] at h
 unfold GN at h
 rw[←Array.foldl_toList] at h
 rcases Kq (fun n=>acc'.getD n 0) a _ 0 h with h | ⟨e,h7,h8,h9⟩
 ·simp at h
 ·refine⟨e,by simpa using h7,h8,?_⟩
  rcases h9 with h9 | h9
  ·exact .inl h9
  ·right
   by_cases he:e.on < b
   ·refine⟨he,?_⟩
    rw[da_,←h4 e.on he,←da_]
    exact h9
   ·rw[da_,ex_ (by omega)] at h9
    simp at h9
theorem Kr {all:Array Oper} {S:Nat→Prop} (hS : ∀ b o,S b→all[b]? = some o → ∀ e∈o.after,Region.binds .any e=true→S e.on) : ∀(b a:Nat),(∀ o,all[b]? = some o → ∀ e∈o.after,Region.binds .any e=true→S e.on)→((Region.before all).getD b 0).testBit a=true→S a:=by
 intro b
 induction b using Nat.strongRecOn with
 | _ b ih =>
  intro a hb h
  obtain⟨o,ho,e,he,hbd,h | ⟨hlt,h⟩⟩:=Vv h
  ·rw[←h]
   exact hb o ho e he hbd
  ·have hse:=hb o ho e he hbd
   exact ih e.on hlt a (fun o' ho' e' he' hb'=>hS e.on o' hse ho' e' he' hb') h
structure Tr where
 i:Nat
 o:Oper
 v:SV
 u:Up
 see:List Nat
 ran:Bool
def l5 (τ:Tr):BZ:={i:=τ.i,see:=τ.see,turn:=τ.u.map (·.1)}
def ju (S:Nat→Bool):List Tr→List SV→List SV
 | [],sl=>sl
 | τ :: T,sl=>ju S T (if S τ.i=true then nO sl τ.o.dst τ.v else sl)
def kC (S:Nat→Bool):List Tr→(Nat→Option bj)→Nat→Option bj
 | [],g=>g
 | τ :: T,g=>kC S T (if S τ.i=true then bL g τ.u else g)
theorem Fx {S:Nat→Bool} : ∀ {T:List Tr} {sl:List SV},(∀ τ∈T,S τ.i=false)→ju S T sl=sl
 | [],_,_=>rfl
 | τ :: T,sl,h=>by
  unfold ju
  rw[ac_ (by rw[h τ (by simp)]; simp)]
  exact Fx fun τ hτ=>h τ (ar_ _ hτ)
theorem Fy {S:Nat→Bool} : ∀ {T:List Tr} {g:Nat→Option bj},(∀ τ∈T,S τ.i=false)→kC S T g=g
 | [],_,_=>rfl
 | τ :: T,g,h=>by
  unfold kC
  rw[ac_ (by rw[h τ (by simp)]; simp)]
  exact Fy fun τ hτ=>h τ (ar_ _ hτ)
theorem Ca {S S':Nat→Bool} : ∀ {T:List Tr} {sl:List SV},(∀ τ∈T,S τ.i=S' τ.i)→ju S T sl=ju S' T sl
 | [],_,_=>rfl
 | τ :: T,sl,h=>by
  unfold ju
  rw[h τ (by simp)]
  exact Ca fun τ hτ=>h τ (ar_ _ hτ)
theorem Cb {S S':Nat→Bool} : ∀ {T:List Tr} {g:Nat→Option bj},(∀ τ∈T,S τ.i=S' τ.i)→kC S T g=kC S' T g
 | [],_,_=>rfl
 | τ :: T,g,h=>by
  unfold kC
  rw[h τ (by simp)]
  exact Cb fun τ hτ=>h τ (ar_ _ hτ)
theorem Ey : ∀(l:List SV) (d:Nat) (v:SV),(dD l d v).length=l.length
 | [],_,_=>rfl
 | x :: l,0,v=>rfl
 | x :: l,d+1,v=>by simp[dD,Ey l d v]
theorem Nj : ∀(l:List SV) (d t:Nat) (v:SV),d≠t→g6 (dD l d v) t=g6 l t
 | [],_,_,_,_=>rfl
 | x :: l,0,0,v,h=>bh_ rfl h
 | x :: l,0,t+1,v,h=>rfl
 | x :: l,d+1,0,v,h=>rfl
 | x :: l,d+1,t+1,v,h=>Nj l d t v (fun e=>h (by rw[e]))
theorem Ks : ∀(l l':List SV) (d:Nat) (v:SV),l.length=l'.length→g6 (dD l d v) d=g6 (dD l' d v) d
 | [],[],_,_,_=>rfl
 | [],_ :: _,_,_,h=>by simp at h
 | _ :: _,[],_,_,h=>by simp at h
 | x :: l,y :: l',0,v,h=>rfl
 | x :: l,y :: l',d+1,v,h=>Ks l l' d v (by simpa using h)
theorem Nk : ∀(l:List SV) (d e:Nat) (v u:SV),d≠e→dD (dD l d v) e u=dD (dD l e u) d v
 | [],_,_,_,_,_=>rfl
 | x :: l,0,0,v,u,h=>bh_ rfl h
 | x :: l,0,e+1,v,u,h=>rfl
 | x :: l,d+1,0,v,u,h=>rfl
 | x :: l,d+1,e+1,v,u,h=>congrArg (x :: ·) (Nk l d e v u (fun hh=>h (by rw[hh])))
theorem GO {S S':Nat→Bool} {t:Nat} : ∀ {T:List Tr} {sl sl':List SV},(∀ τ∈T,τ.o.dst=some t→S τ.i=S' τ.i)→sl.length=sl'.length→g6 sl t=g6 sl' t→g6 (ju S T sl) t=g6 (ju S' T sl') t
 | [],_,_,_,_,h=>h
 | τ :: T,sl,sl',hT,hl,hs=>by
  unfold ju
  refine GO (fun τ hτ=>hT τ (ar_ _ hτ)) ?_ ?_
  ·have : ∀(S:Nat→Bool) (sl:List SV),(if S τ.i=true then nO sl τ.o.dst τ.v else sl).length=sl.length:=by
    intro S sl
    split
    ·unfold nO
     split
     ·exact Ey _ _ _
     ·rfl
    ·rfl
   rw[this,this,hl]
  ·by_cases hd:τ.o.dst=some t
   ·rw[hT τ (by simp) hd]
    split
    ·rw[hd]
     exact Ks _ _ _ _ hl
    ·exact hs
   ·have : ∀(S:Nat→Bool) (sl:List SV),g6 (if S τ.i=true then nO sl τ.o.dst τ.v else sl) t=g6 sl t:=by
     intro S sl
     split
     ·unfold nO
      split
      ·rename_i d hdd
       exact Nj _ _ _ _ (fun e=>hd (by rw[hdd,e]))
      ·rfl
     ·rfl
    rw[this,this,hs]
theorem pm {u:Up} {r:Nat} : ∀ {g g':Nat→Option bj},(g r=g' r→bL g u r=bL g' u r)∧(r ∉ u.map (·.1)→bL g u r=g r):=by
 induction u with
 | nil=>exact fun {g g'}=>⟨fun h=>h,fun _=>rfl⟩
 | cons p u ih =>
  intro g g'
  obtain⟨k,x⟩:=p
  constructor
  ·intro h
   refine(ih (g:=fun s=>if s=k then x else g s) (g':=fun s=>if s=k then x else g' s)).1 ?_
   by_cases hk:r=k
   ·rw[ae_ hk,ae_ hk]
   ·rw[ac_ hk,ac_ hk,h]
  ·intro h
   rw[dc_,bi_] at h
   show bL (fun s=>if s=k then x else g s) u r=g r
   rw[(ih (g:=fun s=>if s=k then x else g s) (g':=g)).2 (fun hh=>h (.inr hh)),ac_ (fun e=>h (.inl e))]
theorem Nl {S S':Nat→Bool} {r:Nat} : ∀ {T:List Tr} {g g':Nat→Option bj},(∀ τ∈T,r∈τ.u.map (·.1)→S τ.i=S' τ.i)→g r=g' r→kC S T g r=kC S' T g' r
 | [],_,_,_,h=>h
 | τ :: T,g,g',hT,hs=>by
  unfold kC
  refine Nl (fun τ hτ=>hT τ (ar_ _ hτ)) ?_
  by_cases hd:r∈τ.u.map (·.1)
  ·rw[hT τ (by simp) hd]
   split
   ·exact pm.1 hs
   ·exact hs
  ·have : ∀(S:Nat→Bool) (g:Nat→Option bj),(if S τ.i=true then bL g τ.u else g) r=g r:=by
    intro S g
    split
    ·exact(pm (g':=g)).2 hd
    ·rfl
   rw[this,this,hs]
theorem Vw {sl:List SV} {d e:Option Nat} {v u:SV} (h : ∀ t,d=some t→e≠some t):nO (nO sl d v) e u=nO (nO sl e u) d v:=by
 cases d with
 | none=>cases e <;> rfl
 | some d=>cases e with
  | none=>rfl
  | some e=>exact Nk sl d e v u (fun hh=>h d rfl (by rw[hh]))
theorem Vx {g:Nat→Option bj} {u u':Up} (h : ∀ r,r∈u.map (·.1)→r ∉ u'.map (·.1)):bL (bL g u) u'=bL (bL g u') u:=by
 funext r
 by_cases h1:r∈u.map (·.1)
 ·rw[(pm (g':=g)).2 (h r h1)]
  exact pm.1 (((pm (g':=g)).2 (h r h1)).symm)
 ·rw[(pm (u:=u) (g':=g)).2 h1]
  exact pm.1 ((pm (u:=u) (g':=g)).2 h1)
theorem GP {S:Nat→Bool} {τ:Tr} (hS:S τ.i=false) : ∀ {T:List Tr} {sl:List SV},τ∈T→(T.map (·.i)).Nodup→(∀ τ'∈T,S τ'.i=true→τ.i < τ'.i → ∀ t,τ.o.dst=some t→τ'.o.dst≠some t)→T.Pairwise (fun x y=>x.i < y.i) →
  ju (fun j=>S j || j == τ.i) T sl=nO (ju S T sl) τ.o.dst τ.v
 | [],_,h,_,_,_=>by simp at h
 | τ0 :: T,sl,hm,hnd,hc,hp=>by
  rw[dc_,ev_] at hnd
  rw[ce_] at hp
  unfold ju
  rcases bi_.1 hm with rfl | hm'
  ·have e1 : ∀ τ'∈T,(S τ'.i || τ'.i == τ.i)=S τ'.i:=fun τ' hτ'=>by
    have:τ'.i≠τ.i:=fun e=>hnd.1 (by rw[←e]; exact ee_ (f:=(·.i)) hτ')
    simp[this]
   rw[Ca e1,ae_ (by simp),ac_ (by rw[hS]; simp)]
   have key : ∀(T:List Tr) (sl:List SV),(∀ τ'∈T,S τ'.i=true → ∀ t,τ.o.dst=some t→τ'.o.dst≠some t)→ju S T (nO sl τ.o.dst τ.v)=nO (ju S T sl) τ.o.dst τ.v:=by
    intro T
    induction T with
    | nil=>intro sl _; rfl
    | cons τ' T ih =>
     intro sl h
     unfold ju
     split
     ·rename_i hs
      rw[Vw (h τ' (by simp) hs)]
      exact ih _ (fun τ hτ=>h τ (ar_ _ hτ))
     ·exact ih _ (fun τ hτ=>h τ (ar_ _ hτ))
   exact key T sl (fun τ' hτ' hs=>hc τ' (ar_ _ hτ') hs (hp.1 τ' hτ'))
  ·have hne:τ0.i≠τ.i:=fun e=>hnd.1 (by rw[e]; exact ee_ (f:=(·.i)) hm')
   have:(S τ0.i || τ0.i == τ.i)=S τ0.i:=by simp[hne]
   rw[this]
   exact GP hS hm' hnd.2 (fun τ' hτ'=>hc τ' (ar_ _ hτ')) hp.2
theorem GQ {S:Nat→Bool} {τ:Tr} (hS:S τ.i=false) : ∀ {T:List Tr} {g:Nat→Option bj},τ∈T→(T.map (·.i)).Nodup→(∀ τ'∈T,S τ'.i=true→τ.i < τ'.i → ∀ r,r∈τ.u.map (·.1)→r ∉ τ'.u.map (·.1))→T.Pairwise (fun x y=>x.i < y.i) →
  kC (fun j=>S j || j == τ.i) T g=bL (kC S T g) τ.u
 | [],_,h,_,_,_=>by simp at h
 | τ0 :: T,g,hm,hnd,hc,hp=>by
  rw[dc_,ev_] at hnd
  rw[ce_] at hp
  unfold kC
  rcases bi_.1 hm with rfl | hm'
  ·have e1 : ∀ τ'∈T,(S τ'.i || τ'.i == τ.i)=S τ'.i:=fun τ' hτ'=>by
    have:τ'.i≠τ.i:=fun e=>hnd.1 (by rw[←e]; exact ee_ (f:=(·.i)) hτ')
    simp[this]
   rw[Cb e1,ae_ (by simp),ac_ (by rw[hS]; simp)]
   have key : ∀(T:List Tr) (g:Nat→Option bj),(∀ τ'∈T,S τ'.i=true → ∀ r,r∈τ.u.map (·.1)→r ∉ τ'.u.map (·.1))→kC S T (bL g τ.u)=bL (kC S T g) τ.u:=by
    intro T
    induction T with
    | nil=>intro g _; rfl
    | cons τ' T ih =>
     intro g h
     unfold kC
     split
     ·rename_i hs
      rw[Vx (h τ' (by simp) hs)]
      exact ih _ (fun τ hτ=>h τ (ar_ _ hτ))
     ·exact ih _ (fun τ hτ=>h τ (ar_ _ hτ))
   exact key T g (fun τ' hτ' hs=>hc τ' (ar_ _ hτ') hs (hp.1 τ' hτ'))
  ·have hne:τ0.i≠τ.i:=fun e=>hnd.1 (by rw[e]; exact ee_ (f:=(·.i)) hm')
   have:(S τ0.i || τ0.i == τ.i)=S τ0.i:=by simp[hne]
   rw[this]
   exact GQ hS hm' hnd.2 (fun τ' hτ'=>hc τ' (ar_ _ hτ')) hp.2
section
variable {P:Program} {E:cP} {call:(I:ay)→List SV→aQ→Option (I.sh.den×I.bx.den)} {w0:World} {X:Nat→Prop} {Pr0:Nat→Nat→Prop}
variable {R:Type} {K:St→Option R} {z:R}
def XY (E:cP) (call:(I:ay)→List SV→aQ→Option (I.sh.den×I.bx.den)) (all:Array Oper) (base:Nat) (τ:Tr) (sl:List SV) (g:Nat→Option bj):Prop :=
 iK all τ.o sl τ.ran∧(τ.ran=true → ∃ res,cQ E call τ.o ((dY τ.o.op).map (ev sl)) res (base+64*τ.i) cO=some (τ.v,τ.u) ∧ ∀ r x,aL res r=some x→r∈τ.see∧g r=some x)∧(τ.ran=false→τ.v = .tup []∧τ.u=[])
theorem Nm {all:Array Oper} {base:Nat} : ∀ {l:List (Nat×Oper)} {g:List BZ} {σ:St},cY E call all true base l g σ K=some z→(l.map (·.1)).Pairwise (· < ·) →
  ∃(T:List Tr) (σ':St),T.map (fun τ=>(τ.i,τ.o))=l∧(∀ τ∈T,XY E call all base τ (ju (fun j=>decide (j < τ.i)) T σ.slots) (kC (fun j=>decide (j < τ.i)) T (aL σ.res)))∧σ'.slots=ju (fun _=>true) T σ.slots∧aL σ'.res=kC (fun _=>true) T (aL σ.res) ∧
   σ'.n0=σ.n0∧σ'.nx=σ.nx∧K σ'=some z∧DK all (Region.before all) ((T.map l5).reverse++g)=true∧IR all=true
 | [],g,σ,h,_=>by
  unfold cY at h
  simp only at h
  split at h
  ·rename_i h1 h2
   exact⟨[],σ,rfl,fun τ hτ=>by simp at hτ,rfl,rfl,rfl,rfl,h,h1,h2⟩
  ·cases h
 | (i,o) :: l,g,σ,h,hp=>by
  obtain⟨ran,v,u,see,hg,hran,hskip,hrest⟩:=Ew h
  rw[dc_,ce_] at hp
  obtain⟨T,σ',h1,h2,h3,h4,h5,h6,h7,h8,h9⟩:=Nm hrest hp.2
  have hT : ∀ τ∈T,i < τ.i:=by
   intro τ hτ
   have:(τ.i,τ.o)∈l:=by
    rw[←h1]
    exact ee_ (f:=fun τ:Tr=>(τ.i,τ.o)) hτ
   exact hp.1 _ (ee_ (f:=(·.1)) this)
  have hres:aL (oP σ o.dst v u).res=bL (aL σ.res) u:=r8
  refine⟨⟨i,o,v,u,see,ran⟩ :: T,σ',by rw[dc_,h1],?_,?_,?_,h5,h6,h7,?_,h9⟩
  ·intro τ hτ
   rcases bi_.1 hτ with rfl | hτ
   ·have hno : ∀ τ'∈T,decide (τ'.i < i)=false:=fun τ' hτ'=>by
     have:=hT τ' hτ'
     simp
     omega
    have e1:ju (fun j=>decide (j < i)) (⟨i,o,v,u,see,ran⟩ :: T) σ.slots=σ.slots:=by
     unfold ju
     rw[ac_ (by simp)]
     exact Fx hno
    have e2:kC (fun j=>decide (j < i)) (⟨i,o,v,u,see,ran⟩ :: T) (aL σ.res)=aL σ.res:=by
     unfold kC
     rw[ac_ (by simp)]
     exact Fy hno
    show XY E call all base ⟨i,o,v,u,see,ran⟩ (ju (fun j=>decide (j < i)) (⟨i,o,v,u,see,ran⟩ :: T) σ.slots) (kC (fun j=>decide (j < i)) (⟨i,o,v,u,see,ran⟩ :: T) (aL σ.res))
    rw[e1,e2]
    exact⟨hg,fun hr=>⟨_,(hran hr).1,fun r x hx=>p3 hx⟩,hskip⟩
   ·have hlt:=hT τ hτ
    have:=h2 τ hτ
    rw[zS,hres] at this
    unfold ju kC
    rw[ae_ (by simp[hlt]),ae_ (by simp[hlt])]
    exact this
  ·rw[h3,zS]
   rfl
  ·rw[h4,hres]
   rfl
  ·rw[dc_,List.reverse_cons,List.append_assoc]
   exact h8
theorem Nn {all:Array Oper} {bf:Array Nat} : ∀ {L:List BZ},DK all bf L=true→L.Pairwise fun b a=>wb all a b=true→(bf.getD b.i 0).testBit a.i=true
 | [],_ => .nil
 | b :: L,h=>by
  simp only[DK,ag_,cl_] at h
  refine ce_.2 ⟨fun a ha hc => ?_,Nn h.2⟩
  have:=h.1 a ha
  rw[hc] at this
  simpa using this
theorem rf {l m:List Nat} {r:Nat} (h1:r∈l) (h2:r∈m):kY l m=true:=by
 unfold kY
 rw[List.any_eq_true]
 refine⟨r,h1,?_⟩
 cases hh:zI m r with
 | true=>rfl
 | false=>exact bh_ h2 (yk hh)
theorem XZ {sl sl':List SV} {x:Operand} (h : ∀ t,x = .tmp t→g6 sl t=g6 sl' t):ev sl x=ev sl' x:=by
 cases x with
 | tmp t=>exact h t rfl
 | _=>rfl
theorem Tb {o:Oper} {t:Nat} (h:Operand.tmp t∈dY o.op):t∈Vb o:=List.mem_filterMap.2 ⟨_,h,rfl⟩
theorem Cc {α:Type} {p q:α→Bool} : ∀ {l:List α},(∀ x∈l,q x=true→p x=true)→(∃ x∈l,p x=true∧q x=false)→(l.filter q).length < (l.filter p).length
 | [],_,h=>by
  obtain⟨x,hx,_⟩:=h
  simp at hx
 | a :: l,hq,⟨x,hx,h1,h2⟩=>by
  have hle : ∀ l:List α,(∀ x∈l,q x=true→p x=true)→(l.filter q).length≤(l.filter p).length:=by
   intro l
   induction l with
   | nil=>intro _; simp
   | cons a l ih =>
    intro h
    have:=ih (fun x hx=>h x (ar_ _ hx))
    simp only[List.filter_cons]
    by_cases ha:q a=true
    ·rw[ae_ ha,ae_ (h a (by simp) ha)]
     simpa using this
    ·rw[ac_ ha]
     split
     ·simp only[aj_]; omega
     ·exact this
  have hl:=hle l (fun x hx=>hq x (ar_ _ hx))
  simp only[List.filter_cons]
  rcases bi_.1 hx with rfl | hx
  ·rw[ac_ (by rw[h2]; simp),ae_ h1]
   simp only[aj_]
   omega
  ·have:=Cc (l:=l) (fun x hx=>hq x (ar_ _ hx)) ⟨x,hx,h1,h2⟩
   by_cases ha:q a=true
   ·rw[ae_ ha,ae_ (hq a (by simp) ha)]
    simpa using this
   ·rw[ac_ ha]
    split
    ·simp only[aj_]; omega
    ·exact this
structure Mid (all:Array Oper) (base:Nat) (T:List Tr) (σ:St) (γ0:Nat→Option G) (listed:Array Bool) (w0:World) (X:Nat→Prop) (Pr0:Nat→Nat→Prop) (γ:Nat→Option G) (Pr:Nat→Nat→Prop) (a:Act) (w:World):Prop where
 size:listed.size=all.size
 closed : ∀ b o,listed.getD b false=true→all[b]? = some o → ∀ e∈o.after,Region.binds .any e=true→listed.getD e.on false=true
 inv:bH w0 X Pr0 (ju (fun j=>listed.getD j false) T σ.slots) (kC (fun j=>listed.getD j false) T (aL σ.res)) γ Pr a w
 low : ∀ r,r < base→γ r=γ0 r
 free : ∀ i,listed.getD i false=false → ∀ r,base+64*i≤r→r < base+64*i+64→γ r=none
theorem Rv {all:Array Oper} {base:Nat} {Q:Exit→Act→World→Prop} (hS:k7 (ow w0 X) P E call) (hE:fY P E) {γ0:Nat→Option G} {σ:St} {T:List Tr} (hT:T.map (fun τ=>(τ.i,τ.o))=(bs_ all.size).zip all.toList)
  (hok : ∀ τ∈T,XY E call all base τ (ju (fun j=>decide (j < τ.i)) T σ.slots) (kC (fun j=>decide (j < τ.i)) T (aL σ.res))) (hord:DK all (Region.before all) (T.map l5).reverse=true) (hedge:IR all=true)
  (hQ : ∀ γ' Pr' a' w',bH w0 X Pr0 (ju (fun _=>true) T σ.slots) (kC (fun _=>true) T (aL σ.res)) γ' Pr' a' w'→(∀ r,r < base→γ' r=γ0 r)→(∀ r,base+64*all.size≤r→γ' r=none)→Q .normal a' w') :
  ∀(fuel:Nat) (listed:Array Bool) (γ:Nat→Option G) (Pr:Nat→Nat→Prop) (a:Act) (w:World),Mid all base T σ γ0 listed w0 X Pr0 γ Pr a w→((bs_ all.size).filter fun j => !listed.getD j false).length≤fuel→wpAny P .any all Q fuel listed a w:=by
 have hTi:T.map (·.i)=bs_ all.size:=by
  have:=congrArg (List.map (·.1)) hT
  rw[List.map_map,(range_zip' all).2] at this
  exact this
 have hTo : ∀ τ∈T,all[τ.i]? = some τ.o:=by
  intro τ hτ
  have:(τ.i,τ.o)∈(bs_ all.size).zip all.toList:=by
   rw[←hT]
   exact ee_ (f:=fun τ:Tr=>(τ.i,τ.o)) hτ
  exact(range_zip' all).1 _ this
 have hnd:(T.map (·.i)).Nodup:=by rw[hTi]; exact List.nodup_range
 have hpw:T.Pairwise fun x y=>x.i < y.i:=by
  have:(T.map (·.i)).Pairwise (· < ·):=by rw[hTi]; exact List.pairwise_lt_range
  exact List.pairwise_map.1 this
 have hlt : ∀ τ∈T,τ.i < all.size:=fun τ hτ=>(cg_.1 (hTo τ hτ)).1
 have hall : ∀ i,i < all.size → ∃ τ∈T,τ.i=i:=by
  intro i hi
  have:i∈T.map (·.i):=by rw[hTi]; exact dy_.2 hi
  obtain⟨τ,h1,h2⟩:=List.mem_map.1 this
  exact⟨τ,h1,h2⟩
 have hcl : ∀ τ∈T,∀ τ'∈T,τ.i < τ'.i→wb all (l5 τ) (l5 τ')=true→((Region.before all).getD τ'.i 0).testBit τ.i=true:=by
  have h1:=Nn hord
  rw[List.pairwise_reverse,List.pairwise_map] at h1
  have h2:T.Pairwise fun x y=>x.i < y.i→wb all (l5 x) (l5 y)=true→((Region.before all).getD y.i 0).testBit x.i=true:=h1.imp fun h _ hc=>h hc
  intro τ hτ τ' hτ'
  by_cases he:τ=τ'
  ·subst he
   intro h
   omega
  ·rcases pair_of hpw h2 hτ hτ' he with h | ⟨h3,_⟩
   ·exact h
   ·intro h
    omega
 have hdone : ∀(listed:Array Bool) (γ:Nat→Option G) (Pr:Nat→Nat→Prop) (a:Act) (w:World),Mid all base T σ γ0 listed w0 X Pr0 γ Pr a w→(∀ j,j < all.size→listed.getD j false=true)→Q .normal a w:=by
  intro listed γ Pr a w hM hl
  have e : ∀ τ∈T,listed.getD τ.i false=true:=fun τ hτ=>hl _ (hlt τ hτ)
  have h1:=hM.inv
  rw[Ca (S':=fun _=>true) e,Cb (S':=fun _=>true) e] at h1
  refine hQ γ Pr a w h1 hM.low fun r hr => ?_
  have hge:all.size≤(r - base) / 64:=(Nat.le_div_iff_mul_le (by omega)).2 (by omega)
  have hun:listed.getD ((r - base) / 64) false=false:=by
   rw[da_,ex_ (by rw[hM.size]; exact hge)]
   rfl
  have hdm:=Nat.div_add_mod (r - base) 64
  have hml:=Nat.mod_lt (r - base) (show 0 < 64 by omega)
  exact hM.free _ hun r (by omega) (by omega)
 have hback : ∀(j:Nat) (o:Oper),all[j]? = some o → ∀ e∈o.after,Region.binds .any e=true→e.on < j:=by
  intro j o ho e he hb
  have hj:j < all.size:=(cg_.1 ho).1
  have:=(cl_.1 hedge) j (dy_.2 hj)
  rw[ho] at this
  have:=(Array.all_eq_true_iff_forall_mem.1 this) e he
  rw[hb] at this
  simpa[Nat.blt_eq] using this
 intro fuel
 induction fuel with
 | zero =>
  intro listed γ Pr a w hM hf
  have hl : ∀ j,j < all.size→listed.getD j false=true:=by
   intro j hj
   cases hh:listed.getD j false with
   | true=>rfl
   | false =>
    have hmem:j∈(bs_ all.size).filter fun j => !listed.getD j false:=List.mem_filter.2 ⟨dy_.2 hj,by rw[hh]; rfl⟩
    rw[cc_ (Nat.le_zero.1 hf)] at hmem
    simp at hmem
  refine⟨?_,hdone listed γ Pr a w hM hl⟩
  apply List.eq_nil_iff_forall_not_mem.2
  intro j hj
  obtain⟨h1,o,ho,_⟩:=mem_ready.1 hj
  have hjl:j < all.size:=(cg_.1 ho).1
  have:=hl j hjl
  rw[da_,cw_ (by rw[hM.size]; exact hjl)] at this h1
  simp only[de_] at this h1
  rw[this] at h1
  cases h1
 | succ fuel ih =>
  intro listed γ Pr a w hM hf
  have hgetD : ∀ j,j < all.size→listed.getD j true=listed.getD j false:=by
   intro j hj
   rw[da_,da_,cw_ (by rw[hM.size]; exact hj)]
   rfl
  refine⟨fun hr=>hdone listed γ Pr a w hM ?_,fun i hi => ?_⟩
  ·intro j
   induction j using Nat.strongRecOn with
   | _ j ihj =>
    intro hj
    cases hh:listed.getD j false with
    | true=>rfl
    | false =>
     have:j∈Region.ready .any all listed:=mem_ready.2 ⟨by rw[hgetD j hj,hh],all[j],cw_ hj,fun e he hb=>by
      have hlt':=hback j _ (cw_ hj) e he hb
      exact ihj e.on hlt' (by omega)⟩
     rw[hr] at this
     simp at this
  ·obtain⟨h1,o,ho,hpre⟩:=mem_ready.1 hi
   have hil:i < all.size:=(cg_.1 ho).1
   obtain⟨τ,hτ,rfl⟩:=hall i hil
   have hoτ:=hTo τ hτ
   rw[ho] at hoτ
   cases hoτ
   have hSi:listed.getD τ.i false=false:=by rw[←hgetD _ hil]; exact h1
   have hpast : ∀ τ'∈T,τ'.i < τ.i→wb all (l5 τ') (l5 τ)=true→listed.getD τ'.i false=true:=by
    intro τ' hτ' hl hc
    exact Kr (S:=fun j=>listed.getD j false=true) hM.closed τ.i τ'.i (fun o' ho' e he hb=>by
     rw[ho] at ho'
     cases ho'
     exact hpre e he hb) (hcl τ' hτ' τ hτ hl hc)
   have hnext : ∀ τ'∈T,τ.i < τ'.i→wb all (l5 τ) (l5 τ')=true→listed.getD τ'.i false=false:=by
    intro τ' hτ' hl hc
    cases hh:listed.getD τ'.i false with
    | false=>rfl
    | true =>
     have:=Kr (S:=fun j=>listed.getD j false=true) hM.closed τ'.i τ.i (fun o' ho' e he hb=>hM.closed τ'.i o' hh ho' e he hb) (hcl τ hτ τ' hτ' hl hc)
     simp only[hSi] at this
     cases this
   have hclash : ∀(x y:Tr),x∈T→y∈T→wb all (l5 x) (l5 y)=(kY x.o.dst.toList (y.o.dst.toList++mU all y.o) || kY y.o.dst.toList (mU all x.o) || kY (x.u.map (·.1)) (y.see++y.u.map (·.1)) || kY (y.u.map (·.1)) x.see):=by
    intro x y hx hy
    unfold wb
    rw[show(l5 x).i=x.i from rfl,show(l5 y).i=y.i from rfl,hTo x hx,hTo y hy]
    rfl
   have hsl : ∀ t,t∈mU all τ.o→g6 (ju (fun j=>listed.getD j false) T σ.slots) t=g6 (ju (fun j=>decide (j < τ.i)) T σ.slots) t:=by
    intro t ht
    refine GO (fun τ' hτ' hd => ?_) rfl rfl
    show listed.getD τ'.i false=decide (τ'.i < τ.i)
    rcases Nat.lt_trichotomy τ'.i τ.i with h | h | h
    ·rw[hpast τ' hτ' h (by rw[hclash τ' τ hτ' hτ,hd]; simp[rf (l:=[t]) (m:=τ.o.dst.toList++mU all τ.o) (r:=t) (by simp) (ct_ _ ht)])]
     simp[h]
    ·rw[h,hSi]
     simp
    ·rw[hnext τ' hτ' h (by rw[hclash τ τ' hτ hτ',hd]; simp[rf (l:=[t]) (m:=mU all τ.o) (r:=t) (by simp) ht])]
     simp
     omega
   have hgl : ∀ r,r∈τ.see→kC (fun j=>listed.getD j false) T (aL σ.res) r=kC (fun j=>decide (j < τ.i)) T (aL σ.res) r:=by
    intro r hr
    refine Nl (fun τ' hτ' hd => ?_) rfl
    show listed.getD τ'.i false=decide (τ'.i < τ.i)
    rcases Nat.lt_trichotomy τ'.i τ.i with h | h | h
    ·rw[hpast τ' hτ' h (by rw[hclash τ' τ hτ' hτ]; simp[rf (m:=τ.see++τ.u.map (·.1)) hd (cq_ _ hr)])]
     simp[h]
    ·rw[h,hSi]
     simp
    ·rw[hnext τ' hτ' h (by rw[hclash τ τ' hτ hτ']; simp[rf (m:=τ.see) hd hr])]
     simp
     omega
   obtain⟨hg,hran,hskip⟩:=hok τ hτ
   have hargs:(dY τ.o.op).map (ev (ju (fun j=>listed.getD j false) T σ.slots))=(dY τ.o.op).map (ev (ju (fun j=>decide (j < τ.i)) T σ.slots)):=by
    apply List.map_congr_left
    intro x hx
    refine XZ fun t ht=>hsl t ?_
    subst ht
    exact cq_ _ (Tb hx)
   have hg':iK all τ.o (ju (fun j=>listed.getD j false) T σ.slots) τ.ran:=by
    unfold iK at hg ⊢
    split at hg
    ·exact hg
    ·rename_i j want hgd
     obtain⟨d,h2,h3⟩:=hg
     refine⟨d,h2,?_⟩
     rw[hsl d ?_]
     ·exact h3
     ·unfold mU
      rw[hgd]
      refine ct_ _ ?_
      simp only[h2]
      simp
   obtain⟨res,hcore,hknow⟩ : ∃ res,(τ.ran=true→cQ E call τ.o ((dY τ.o.op).map (ev (ju (fun j=>listed.getD j false) T σ.slots))) res (base+64*τ.i) cO=some (τ.v,τ.u)) ∧ ∀ r x,aL res r=some x→kC (fun j=>listed.getD j false) T (aL σ.res) r=some x:=by
    cases hr:τ.ran with
    | false=>exact⟨[],fun h=>(by cases h),fun r x h=>(by simp[aL] at h)⟩
    | true =>
     obtain⟨res,h2,h3⟩:=hran hr
     refine⟨res,fun _=>by rw[hargs]; exact h2,fun r x hx => ?_⟩
     obtain⟨h4,h5⟩:=h3 r x hx
     rw[hgl r h4]
     exact h5
   refine Ni hS hE hM.inv ho hg' hcore hknow hskip (hM.free τ.i hSi) ?_
   intro a' w' γ' Pr' hI' hγ'
   have hset : ∀ j,(listed.setIfInBounds τ.i true).getD j false=(listed.getD j false || j == τ.i):=by
    intro j
    by_cases hj:τ.i=j
    ·subst hj
     have:τ.i < listed.size:=by rw[hM.size]; exact hil
     simp[this]
    ·rw[getD_set_ne false hj]
     have:(j == τ.i)=false:=by
      rw[beq_eq_false_iff_ne]
      exact fun e=>hj e.symm
     rw[this,Bool.or_false]
   refine ih (listed.setIfInBounds τ.i true) γ' Pr' a' w' ⟨?_,?_,?_,?_,?_⟩ ?_
   ·rw[Array.size_setIfInBounds]
    exact hM.size
   ·intro b o' hb ho' e he hbd
    rw[hset] at hb
    refine getD_set_true ?_
    by_cases hbi:b=τ.i
    ·subst hbi
     rw[ho] at ho'
     cases ho'
     exact hpre e he hbd
    ·have hb':listed.getD b false=true:=by simpa[hbi] using hb
     exact hM.closed b o' hb' ho' e he hbd
   ·have e1:(fun j=>(listed.setIfInBounds τ.i true).getD j false)=fun j=>listed.getD j false || j == τ.i:=funext hset
    rw[e1]
    rw[GP (S:=fun j=>listed.getD j false) hSi hτ hnd (fun τ' hτ' hs hlt' t hd hd'=>by
     have hm1:kY (some t).toList ((some t).toList++mU all τ'.o)=true:=rf (r:=t) (by simp) (by simp)
     have:=hnext τ' hτ' hlt' (by rw[hclash τ τ' hτ hτ',hd,hd',hm1]; rfl)
     rw[this] at hs
     cases hs) hpw]
    rw[GQ (S:=fun j=>listed.getD j false) hSi hτ hnd (fun τ' hτ' hs hlt' r hr hr'=>by
     have:=hnext τ' hτ' hlt' (by rw[hclash τ τ' hτ hτ']; simp[rf (m:=τ'.see++τ'.u.map (·.1)) hr (ct_ _ hr')])
     rw[this] at hs
     cases hs) hpw]
    exact hI'
   ·intro r hr
    rw[hγ' r (by rintro⟨h2,_⟩; omega)]
    exact hM.low r hr
   ·intro j hj r h2 h3
    rw[hset] at hj
    simp only[gu_,beq_eq_false_iff_ne] at hj
    have hne:=hj.2
    rw[hγ' r (by
     rintro⟨h4,h5⟩
     rcases Nat.lt_or_gt_of_ne hne with h | h <;> omega)]
    exact hM.free j hj.1 r h2 h3
   ·have:=Cc (l:=bs_ all.size) (p:=fun j => !listed.getD j false) (q:=fun j => !(listed.setIfInBounds τ.i true).getD j false) (fun x _ hx=>by
     rw[hset] at hx
     simp only[dr_,gu_] at hx ⊢
     exact hx.1) ⟨τ.i,dy_.2 hil,by rw[hSi]; rfl,by rw[hset]; simp⟩
    omega
where
 range_zip' (ops:Array Oper):(∀ p∈(bs_ ops.size).zip ops.toList,ops[p.1]? = some p.2)∧((bs_ ops.size).zip ops.toList).map (·.1)=bs_ ops.size:=by
  constructor
  ·intro p hp
   obtain⟨k,hk,rfl⟩:=dk_ hp
   rw[List.getElem_zip]
   simp only[List.getElem_range]
   rw[←dj_]
   exact as_ _
  ·exact List.map_fst_zip (by simp)
 pair_of {R1 R2:Tr→Tr→Prop} {T:List Tr} (h1:T.Pairwise R1) (h2:T.Pairwise R2) {x y:Tr} (hx:x∈T) (hy:y∈T) (hne:x≠y):R2 x y∨(R1 y x∧R2 y x):=by
  induction T with
  | nil=>simp at hx
  | cons t T ih =>
   rw[ce_] at h1 h2
   rcases bi_.1 hx with rfl | hx' <;> rcases bi_.1 hy with rfl | hy'
   ·exact bh_ rfl hne
   ·exact .inl (h2.1 y hy')
   ·exact .inr ⟨h1.1 x hx',h2.1 x hx'⟩
   ·exact ih h1.2 h2.2 hx' hy'
theorem X0 {all:Array Oper} {id:Nat} {base:Nat} {Q:Exit→Act→World→Prop} (hm:P.follows .mixedOrders=true) (hS:k7 (ow w0 X) P E call) (hE:fY P E) {γ0:Nat→Option G}
  {σ:St} {γ:Nat→Option G} {Pr:Nat→Nat→Prop} {a:Act} {w:World} (h:cY E call all true base ((bs_ all.size).zip all.toList) [] σ K=some z)
   (hI:bH w0 X Pr0 σ.slots (aL σ.res) γ Pr a w) (hlow : ∀ r,r < base→γ r=γ0 r) (hhigh : ∀ r,base≤r→γ r=none)
   (hQ : ∀ σ' γ' Pr' a' w',K σ'=some z→bH w0 X Pr0 σ'.slots (aL σ'.res) γ' Pr' a' w'→(∀ r,r < base→γ' r=γ0 r)→(∀ r,base+64*all.size≤r→γ' r=none)→σ'.n0=σ.n0→σ'.nx=σ.nx→Q .normal a' w') :
   (Code.region id all true).wp P Q a w:=by
 obtain⟨T,σ',h1,h2,h3,h4,h5,h6,h7,h8,h9⟩:=Nm h (by rw[(Rv.range_zip' all).2]; exact List.pairwise_lt_range)
 rw[bv_] at h8
 refine wp_region_any hm ?_
 have hnone : ∀ j,(Array.replicate all.size false).getD j false=false:=by
  intro j
  rw[da_]
  by_cases hj:j < all.size
  ·simp[hj]
  ·rw[ex_ (by simpa using hj)]
   rfl
 refine Rv hS hE h1 h2 h8 h9 (fun γ' Pr' a' w' hi hl hh=>hQ σ' γ' Pr' a' w' h7 (by rw[h3,h4]; exact hi) hl hh h5 h6) all.size _ γ Pr a _ ⟨by simp,?_,?_,hlow,fun i _ r hr _=>hhigh r (by omega)⟩ ?_
 ·intro b o hb
  rw[hnone] at hb
  cases hb
 ·rw[Fx (fun τ _=>hnone τ.i),Fy (fun τ _=>hnone τ.i)]
  exact⟨g8 (fun _ _ _ h=>h) (fun _ _ h=>h) hI.slots,hI.defers,hI.gs,hI.wfs,hI.res,hI.apart,hI.loose,hI.where_,hI.frame,hI.size,hI.os,hI.tape,hI.output,hI.prIn,hI.prOld,hI.pr0⟩
 ·refine bq_ (List.length_filter_le _ _) ?_
  simp
end
end Go.Proofs.YthbkdfcmjmmpgaaGreatDoor.Abs
namespace Go.Proofs.YthbkdfcmjmmpgaaGreatDoor.Abs
open Go Go.RowKit
theorem xn {P:Program} {c:Code} {Q Q':Exit→Act→World→Prop} (hq : ∀ e a w,Q e a w→Q' e a w) : ∀ {n m:Nat},n≤m → ∀ {a:Act} {w:World},Code.rounds P c Q n a w→Code.rounds P c Q' m a w
 | 0,_,_,_,_,h=>h.elim
 | n+1,0,hle,_,_,_=>bh_ hle (by omega)
 | n+1,m+1,hle,a,w,h=>by
  refine Code.wp_mono (fun e a w h => ?_) (show c.wp P (Exit.then (Code.rounds P c Q n) Q) a w from h)
  cases e <;> first | exact xn hq (Nat.le_of_succ_le_succ hle) h | exact hq _ _ _ h
def cL (P:Program) (n:Nat):List Fr→(Exit→Act→World→Prop)→Exit→Act→World→Prop
 | [],Q=>Q
 | .seq b :: S,Q=>Exit.then (b.wp P (cL P n S Q)) (cL P n S Q)
 | .block id :: S,Q=>Exit.inBlock id (cL P n S Q)
 | .loop b :: S,Q=>Exit.then (Code.rounds P b (cL P n S Q) n) (cL P n S Q)
section
variable {P:Program} {E:cP} {Q:Exit→Act→World→Prop}
theorem ep {n m:Nat} (h:n≤m) : ∀(S:List Fr) {e:Exit} {a:Act} {w:World},cL P n S Q e a w→cL P m S Q e a w
 | [],_,_,_,hh=>hh
 | .seq b :: S,e,a,w,hh=>by
  cases e <;> first | exact Code.wp_mono (fun _ _ _ h'=>ep h S h') hh | exact ep h S hh
 | .block id :: S,e,a,w,hh=>by
  cases e with
  | exit j =>
   show if j=id then cL P m S Q .normal a w else cL P m S Q (.exit j) a w
   have hh':if j=id then cL P n S Q .normal a w else cL P n S Q (.exit j) a w:=hh
   split at hh'
   ·rename_i hj
    rw[ae_ hj]
    exact ep h S hh'
   ·rename_i hj
    rw[ac_ hj]
    exact ep h S hh'
  | _=>exact ep h S hh
 | .loop b :: S,e,a,w,hh=>by
  cases e <;> first | exact xn (fun _ _ _ h'=>ep h S h') h hh | exact ep h S hh
theorem ox {n:Nat} : ∀(S:List Fr) {a:Act} {w:World},Q .ret a w→cL P n S Q .ret a w
 | [],_,_,h=>h
 | .seq b :: S,_,_,h=>ox S h
 | .block id :: S,_,_,h=>ox S h
 | .loop b :: S,_,_,h=>ox S h
theorem m5 {n:Nat} {I:ay} {id:Nat} : ∀(S:List Fr) {S':List Fr} {a:Act} {w:World},zK I id S=some S'→cL P n S' Q .normal a w→cL P n S Q (.exit id) a w
 | [],_,_,_,h,_=>by simp[zK] at h
 | .seq b :: S,_,_,_,h,k=>m5 (I:=I) S h k
 | .loop b :: S,_,_,_,h,k=>m5 (I:=I) S h k
 | .block j :: S,S',a,w,h,k=>by
  show if id=j then cL P n S Q .normal a w else cL P n S Q (.exit id) a w
  unfold zK at h
  by_cases hj:j=id
  ·subst hj
   have:db_ j j=true:=by simp
   rw[this] at h
   cases h
   rw[ae_ rfl]
   exact k
  ·have:db_ j id=false:=by
    cases hb:db_ j id with
    | false=>rfl
    | true=>exact bh_ (br_ hb) hj
   rw[this] at h
   rw[ac_ (fun e=>hj e.symm)]
   exact m5 (I:=I) S h k
end
structure At (w0:World) (X:Nat→Prop) (Pr0:Nat→Nat→Prop) (γ0:Nat→Option G) (σ:St) (γ:Nat→Option G) (Pr:Nat→Nat→Prop) (a:Act) (w:World):Prop where
 inv:bH w0 X Pr0 σ.slots (aL σ.res) γ Pr a w
 low : ∀ r,r < σ.n0→γ r=γ0 r
 high : ∀ r,σ.nx≤r→γ r=none
 le:σ.n0≤σ.nx
section
theorem Vy (r:Nat) (l:List Nat):l <+: DJ r l:=by
 unfold DJ
 split
 ·exact ga_
 ·exact List.prefix_append _ _
theorem sC {f:List Nat→SV→List Nat} (hf : ∀ l v,l <+: f l v) : ∀(vs:List SV) (l:List Nat),l <+: vs.foldl f l
 | [],l=>ga_
 | v :: vs,l=>(hf l v).trans (sC hf vs (f l v))
theorem sD : ∀(d:Nat) (v:SV) (l:List Nat),l <+: rV d v l
 | 0,_,_=>ga_
 | d+1,v,l=>by
  cases v <;> simp only[rV] <;> first | exact ga_ | exact Vy _ _ | exact sC (fun l v=>sD d v l) _ _
theorem p4 (res:aQ) : ∀(d j:Nat) (l:List Nat),l <+: uE res d j l
 | 0,_,_=>ga_
 | d+1,j,l=>by
  unfold uE
  split
  ·exact ga_
  ·split
   ·exact(sD 9 _ l).trans (p4 res d (j+1) _)
   ·exact(sC (fun l v=>sD 1 v l) _ l).trans (p4 res d (j+1) _)
   ·exact(sC (fun l v=>sD 1 v l) _ l).trans (p4 res d (j+1) _)
   ·exact p4 res d (j+1) l
theorem Qi (res:aQ) (vs:List SV) (l:List Nat):l <+: lH res vs l:=(sC (fun l v=>sD 9 v l) vs l).trans (p4 res 40 0 _)
theorem rg : ∀ n,(pN n).length=n
 | 0=>rfl
 | n+1=>by simp[pN,rg n]
theorem No : ∀ {n j:Nat},j < n→(pN n)[j]? = some j
 | n+1,j,h=>by
  unfold pN
  by_cases hj:j < n
  ·rw[bz_ (by rw[rg]; exact hj)]
   exact No hj
  ·have:j=n:=by omega
   subst this
   rw[do_ (by rw[rg]; omega),rg]
   simp
variable {w0:World} {X:Nat→Prop} {Pr0:Nat→Nat→Prop} {γ0 γ:Nat→Option G} {σ:St} {Pr:Nat→Nat→Prop} {a:Act} {w:World}
theorem At.norm (h:At w0 X Pr0 γ0 σ γ Pr a w) (live:List Nat) : ∃ γ',At w0 X Pr0 γ0 (norm live σ) γ' Pr a w:=by
 have hpre:=Qi σ.res (tj live 0 σ.slots) (pN σ.n0)
 have hlen:σ.n0≤(lH σ.res (tj live 0 σ.slots) (pN σ.n0)).length:=by
  have:=hpre.length_le
  rwa[rg] at this
 obtain⟨γ',h1,h2,h3⟩:=h.inv.norm live
 refine⟨γ',h1,?_,h2,hlen⟩
 intro r hr
 have hr':r < σ.n0:=hr
 rw[←h.low r hr']
 apply h3
 obtain⟨t,ht⟩:=hpre
 rw[←ht,bz_ (by rw[rg]; exact hr')]
 exact No hr'
end
theorem Vz (ops:Array Oper):(∀ p∈(bs_ ops.size).zip ops.toList,ops[p.1]? = some p.2)∧((bs_ ops.size).zip ops.toList).map (·.1)=bs_ ops.size:=by
 constructor
 ·intro p hp
  obtain⟨k,hk,rfl⟩:=dk_ hp
  rw[List.getElem_zip]
  simp only[List.getElem_range]
  rw[←dj_]
  exact as_ _
 ·exact List.map_fst_zip (by simp)
section
variable {P:Program} {E:cP}
def MC (P:Program) (E:cP) (w0:World) (X:Nat→Prop) (k:Nat):Prop := ∀(I:ay) {R:Type} (K:St→Option R) (c:Code) (S:List Fr) (σ:St) (z:R),run E k I K c S σ=some z → ∀(Pr0:Nat→Nat→Prop) (γ0 γ:Nat→Option G) (Pr:Nat→Nat→Prop) (a:Act) (w:World) (Q:Exit→Act→World→Prop),
 At w0 X Pr0 γ0 σ γ Pr a w→(∀ σ' γ' Pr' a' w',K σ'=some z→At w0 X Pr0 γ0 σ' γ' Pr' a' w'→σ'.n0=σ.n0→Q .normal a' w'∧Q .ret a' w') → ∀ n,k≤n→c.wp P (cL P n S Q) a w
def Tc (P:Program) (E:cP) (w0:World) (X:Nat→Prop) (k:Nat):Prop := ∀(I:ay) {R:Type} (K:St→Option R) (S:List Fr) (σ:St) (z:R),uI (run E k) I K S σ=some z → ∀(Pr0:Nat→Nat→Prop) (γ0 γ:Nat→Option G) (Pr:Nat→Nat→Prop) (a:Act) (w:World) (Q:Exit→Act→World→Prop),
 At w0 X Pr0 γ0 σ γ Pr a w→(∀ σ' γ' Pr' a' w',K σ'=some z→At w0 X Pr0 γ0 σ' γ' Pr' a' w'→σ'.n0=σ.n0→Q .normal a' w'∧Q .ret a' w') → ∀ n,k≤n→cL P n S Q .normal a w
theorem Fz {I:ay} {R:Type} {K:St→Option R} {c:Code} {S:List Fr} {σ:St}:run E 0 I K c S σ=none:=rfl
theorem oS {k:Nat} {I:ay} {R:Type} {K:St→Option R} {c:Code} {S:List Fr} {σ:St}:run E (k+1) I K c S σ=tk E (run E k) I K c S σ:=rfl
theorem VA {w0:World} {X:Nat→Prop} (k:Nat) (hR : ∀ j,j≤k→MC P E w0 X j) : ∀ j,j≤k→Tc P E w0 X j:=by
 intro j
 induction j with
 | zero =>
  intro _ I R K S σ z h Pr0 γ0 γ Pr a w Q hA hQ n hn
  cases S with
  | nil=>exact(hQ σ γ Pr a w h hA rfl).1
  | cons f S=>cases f <;> (simp only[uI,Fz] at h; cases h)
 | succ j ih =>
  intro hj I R K S σ z h Pr0 γ0 γ Pr a w Q hA hQ n hn
  cases S with
  | nil=>exact(hQ σ γ Pr a w h hA rfl).1
  | cons f S =>
   cases f with
   | seq b=>exact hR (j+1) hj I K b S σ z h Pr0 γ0 γ Pr a w Q hA hQ n hn
   | block id =>
    simp only[uI,oS,tk] at h
    exact ih (by omega) I K S σ z h Pr0 γ0 γ Pr a w Q hA hQ n (by omega)
   | loop b =>
    simp only[uI,oS,tk] at h
    obtain⟨m,rfl⟩ : ∃ m,n=m+1:=⟨n - 1,by omega⟩
    have:=hR j (by omega) I K b (.loop b :: S) σ z h Pr0 γ0 γ Pr a w Q hA hQ m (by omega)
    show b.wp P (Exit.then (Code.rounds P b (cL P (m+1) S Q) m) (cL P (m+1) S Q)) a w
    refine Code.wp_mono (fun e a w h => ?_) this
    cases e <;> first | exact xn (fun _ _ _ h'=>ep (by omega) S h') (aq_ _) h | exact ep (by omega) S h
theorem abk {w0:World} {X:Nat→Prop} (hm:P.follows .mixedOrders=true) (hE:fY P E) (k:Nat) (hC : ∀ j,j < k→k7 (ow w0 X) P E (ff E (run E j))) : ∀ j,j≤k→MC P E w0 X j:=by
 intro j
 induction j using Nat.strongRecOn with
 | _ j ih =>
  intro hj I R K c S σ z h Pr0 γ0 γ Pr a w Q hA hQ n hn
  cases j with
  | zero=>rw[Fz] at h; cases h
  | succ j =>
   have hpop:Tc P E w0 X j:=VA j (fun i hi=>ih i (by omega) (by omega)) j (aq_ _)
   have hrun:MC P E w0 X j:=ih j (by omega) (by omega)
   rw[oS] at h
   unfold tk at h
   split at h
   ·exact wp_skip (hpop I K S σ z h Pr0 γ0 γ Pr a w Q hA hQ n (by omega))
   ·rename_i id ops draw
    dsimp only at h
    have hE':fY P {E with sub:=I.sub}:=⟨hE.ty,hE.by_,hE.fns,hE.eqs⟩
    have hC' : ∀ j,j < k→k7 (ow w0 X) P {E with sub:=I.sub} (ff E (run E j)):=hC
    obtain⟨σ1,γ1,hA1,hn0,h1⟩ : ∃ σ1 γ1,At w0 X Pr0 γ0 σ1 γ1 Pr a w∧σ1.n0=σ.n0∧cY {E with sub:=I.sub} (ff E (run E j)) ops draw σ1.nx ((bs_ ops.size).zip ops.toList) [] σ1 (fun σ'=>uI (run E j) I K S {σ' with nx:=σ1.nx+64*ops.size})=some z:=by
     split at h
     ·rename_i l hl
      obtain⟨γ',hA'⟩:=hA.norm l
      exact⟨norm l σ,γ',hA',rfl,h⟩
     ·exact⟨σ,γ,hA,rfl,h⟩
    have hfin : ∀(σ':St) (γ':Nat→Option G) (Pr':Nat→Nat→Prop) (a':Act) (w':World),uI (run E j) I K S {σ' with nx:=σ1.nx+64*ops.size}=some z→bH w0 X Pr0 σ'.slots (aL σ'.res) γ' Pr' a' w'→(∀ r,r < σ1.nx→γ' r=γ1 r)→(∀ r,σ1.nx+64*ops.size≤r→γ' r=none)→σ'.n0=σ1.n0→σ'.nx=σ1.nx→cL P n S Q .normal a' w':=by
     intro σ' γ' Pr' a' w' h2 h3 h4 h5 h6 h7
     refine hpop I K S _ z h2 Pr0 γ0 γ' Pr' a' w' Q ⟨h3,?_,h5,?_⟩ (fun σ2 γ2 Pr2 a2 w2 h8 h9 h10=>hQ σ2 γ2 Pr2 a2 w2 h8 h9 ?_) n (by omega)
     ·intro r hr
      have hr':r < σ1.n0:=by rw[←h6]; exact hr
      rw[h4 r (cv_ hr' hA1.le)]
      exact hA1.low r hr'
     ·have:=hA1.le
      show σ'.n0≤σ1.nx+64*ops.size
      omega
     ·exact h10.trans (h6.trans hn0)
    cases draw with
    | false =>
     refine wp_region ?_
     have hz:=Vz ops
     rw[←hz.2]
     refine XX (γ0:=γ1) (hC' j (by omega)) hE' h1 hz.1 (by rw[hz.2]; exact List.nodup_range) hA1.inv (fun p hp r h2 h3=>hA1.high r (by omega)) (fun r hr=>rfl) (fun p hp=>(cg_.1 (hz.1 p hp)).1) (fun r hr=>hA1.high r (by omega)) ?_
     intro σ' γ' Pr' a' w' h2 h3 h4 h5 h6 h7
     exact hfin σ' γ' Pr' a' w' h2 h3 h4 h5 h6 h7
    | true=>exact X0 hm (hC' j (by omega)) hE' (γ0:=γ1) h1 hA1.inv (fun r hr=>rfl) hA1.high hfin
   ·rename_i x y
    refine wp_seq ?_
    exact hrun I K x (.seq y :: S) σ z h Pr0 γ0 γ Pr a w Q hA hQ n (by omega)
   ·rename_i cnd x y
    split at h
    ·rename_i b hb
     have hev:=MB hA.inv.slots cnd
     rw[hb] at hev
     have hbv:=iU hev
     split at h
     ·rename_i hbt
      rw[show b=true from hbt] at hbv
      exact wp_cond_true hbv (hrun I K x S σ z h Pr0 γ0 γ Pr a w Q hA hQ n (by omega))
     ·rename_i hbf
      have hbf':b=false:=by
       cases hh:(b:Bool) with
       | true=>exact bh_ hh hbf
       | false=>rfl
      rw[hbf'] at hbv
      exact wp_cond_false hbv (hrun I K y S σ z h Pr0 γ0 γ Pr a w Q hA hQ n (by omega))
    ·cases h
   ·rename_i id x
    refine wp_block ?_
    exact hrun I K x (.block id :: S) σ z h Pr0 γ0 γ Pr a w Q hA hQ n (by omega)
   ·rename_i x
    refine wp_loop_rounds (n+1) ?_
    exact hrun I K x (.loop x :: S) σ z h Pr0 γ0 γ Pr a w Q hA hQ n (by omega)
   ·rename_i id
    split at h
    ·rename_i S' hS'
     cases j with
     | zero=>rw[Fz] at h; cases h
     | succ j =>
      have hpop':Tc P E w0 X j:=VA j (fun i hi=>ih i (by omega) (by omega)) j (aq_ _)
      rw[oS] at h
      simp only[tk] at h
      exact wp_exit (m5 (I:=I) S hS' (hpop' I K S' σ z h Pr0 γ0 γ Pr a w Q hA hQ n (by omega)))
    ·cases h
   ·exact wp_ret (ox S (hQ σ γ Pr a w h hA rfl).2)
   ·cases h
end
end Go.Proofs.YthbkdfcmjmmpgaaGreatDoor.Abs
namespace Go.Proofs.YthbkdfcmjmmpgaaGreatDoor.Abs
open Go Go.RowKit
def p5 (γ γr:Nat→Option G) (ro:List Nat) (n:Nat):Prop := ∀(i r:Nat),ro[i]? = some r→γr (n+i)=γ r
theorem p5.left {γ γr:Nat→Option G} {a b:List Nat} {n:Nat} (h:p5 γ γr (a++b) n):p5 γ γr a n:=fun i r hr=>h i r (by
 rw[bz_ (ax_.1 hr).1]
 exact hr)
theorem p5.right {γ γr:Nat→Option G} {a b:List Nat} {n:Nat} (h:p5 γ γr (a++b) n):p5 γ γr b (n+a.length):=fun i r hr=>by
 have:=h (a.length+i) r (by
  rw[do_ (by omega)]
  simpa using hr)
 rwa[←dq_] at this
section
variable {L:Lk} {γ γr:Nat→Option G} {res:aQ} {fr:List Nat}
theorem Np {t:Ty} {v:SV} {x:t.den} (h:gh res (.val t) v=some x):dh res 9 t v=some x:=by
 cases v <;> exact h
theorem uO {e:TypeId} {t:Ty} {b:Bool} {v:SV} {x:List t.den} (h:gh res (.row e t b) v=some x) : ∃ r,v = .row r∧aL res r=some (.row e t x b):=by
 cases v <;> first | (cases h; done) | skip
 rename_i r
 have h':(match aL res r with
  | some (.row e' s xs fr')=>match (b == fr') with
   | true=>jx? (t := .slice e' s) (.slice e t) xs
   | false=>none
  | _=>none)=some x:=h
 split at h'
 ·rename_i e' s xs fr' hg
  split at h'
  ·rename_i hb
   obtain⟨he,hx⟩:=jB h'
   cases he
   have hx:xs=x:=hx
   subst hx
   have:b=fr':=by simpa using hb
   subst this
   exact⟨r,rfl,hg⟩
  ·cases h'
 ·cases h'
theorem p6 {s:Sh} {v:SV} {x:s.den} (h:gh res (.strct s) v=some x) : ∃ l,v = .strct l∧gh.go res s l=some x:=by
 cases v <;> first | (cases h; done) | skip
 rename_i l
 exact⟨l,rfl,h⟩
theorem kS {a b:Sh} {l:List SV} {x:(Sh.pair a b).den} (h:gh.go res (.pair a b) l=some x) : ∃ v l',l=v :: l'∧gh res a v=some x.1∧gh.go res b l'=some x.2:=by
 cases l with
 | nil=>cases h
 | cons v l =>
  have h':((gh res a v).bind fun x=>(gh.go res b l).bind fun y=>some (x,y))=some x:=h
  rw[al_] at h'
  obtain⟨x1,h1,h'⟩:=h'
  rw[al_] at h'
  obtain⟨x2,h2,h'⟩:=h'
  cases h'
  exact⟨v,l,rfl,h1,h2⟩
theorem Cd {l:List SV} {x:Sh.unit.den} (h:gh.go res .unit l=some x):l=[]:=by
 cases l with
 | nil=>rfl
 | cons v l=>cases h
theorem gT (hR:iV L γ res (fun r=>r∈fr)) (hT:pR γ res) : ∀(s:Sh),(∀(t0:Ty) (v:SV) (cs:List Value) (x:s.den) (n:Nat),RT L γ t0 v cs→gh res s v=some x→(∀ r∈e8 s v,r∈fr)→p5 γ γr (aP s v) n → ∃ t,zJ s=some t∧RT L γr t (aR s x n).1 cs) ∧
  (∀(t0:Ty) (l:List SV) (cs:List Value) (x:s.den) (n:Nat),gw L γ t0 l cs→gh.go res s l=some x→(∀ r∈e8.go s l,r∈fr)→p5 γ γr (aP.go s l) n → ∃ t,zJ.go s=some t∧gw L γr t (aR.go s x n).1 cs)
 | .val t=>⟨fun t0 v cs x n hv h hf hn=>by
   have hk:=uJ hR 9 9 (aq_ _) (by
    intro r hr
    exact hf r (by cases v <;> exact hr)) hv (Np h)
   exact⟨t,rfl,.val hk⟩,fun t0 l cs x n hv h hf hn=>by cases l <;> cases h⟩
 | .row e t b=>⟨fun t0 v cs x n hv h hf hn=>by
   obtain⟨r,rfl,hg⟩:=uO h
   cases hv with
   | row hγ =>
    obtain⟨v',hv'⟩:=hT r e t x (.inl ⟨b,hg⟩)
    rw[hγ] at hv'
    cases hv'
    refine⟨_,rfl,RT.row ?_⟩
    have:=hn 0 r rfl
    rw[eg_] at this
    rw[this]
    exact hγ,fun t0 l cs x n hv h hf hn=>by cases l <;> cases h⟩
 | .unit=>⟨(fun t0 v cs x n hv h hf hn=>by cases v <;> cases h),fun t0 l cs x n hv h hf hn=>by
   have:=Cd h
   subst this
   cases hv
   exact⟨.unit,rfl,.nil⟩⟩
 | .ptr t=>⟨(fun t0 v cs x n hv h hf hn=>by cases v <;> cases h),fun t0 l cs x n hv h hf hn=>by cases l <;> cases h⟩
 | .strct s=>⟨fun t0 v cs x n hv h hf hn=>by
   obtain⟨l,rfl,h'⟩:=p6 h
   cases hv with
   | strct hl =>
    obtain⟨t,h1,h2⟩:=(gT hR hT s).2 _ l cs x n hl h' hf hn
    refine⟨.agg t,?_,.strct h2⟩
    show(zJ.go s).map Ty.agg=_
    rw[h1]
    rfl,fun t0 l cs x n hv h hf hn=>by cases l <;> cases h⟩
 | .pair a b=>⟨(fun t0 v cs x n hv h hf hn=>by cases v <;> cases h),fun t0 l cs x n hv h hf hn=>by
   obtain⟨v,l',rfl,h1,h2⟩:=kS h
   cases hv with
   | cons hv hk =>
    have hro:aP.go (.pair a b) (v :: l')=aP a v++aP.go b l':=rfl
    rw[hro] at hn
    have hc:=(give_count a).1 v x.1 n h1
    obtain⟨t1,h3,h4⟩:=(gT hR hT a).1 _ v _ x.1 n hv h1 (fun r hr=>hf r (cq_ _ hr)) hn.left
    obtain⟨t2,h5,h6⟩:=(gT hR hT b).2 _ l' _ x.2 (aR a x.1 n).2.2 hk h2 (fun r hr=>hf r (ct_ _ hr)) (by rw[hc]; exact hn.right)
    refine⟨.pair t1 t2,?_,.cons h4 h6⟩
    show((zJ a).bind fun t=>(zJ.go b).map fun u=>Ty.pair t u)=_
    rw[h3,h5]
    rfl⟩
where
 give_count : ∀(s:Sh),(∀(v:SV) (x:s.den) (n:Nat),gh res s v=some x→(aR s x n).2.2=n+(aP s v).length)∧(∀(l:List SV) (x:s.den) (n:Nat),gh.go res s l=some x→(aR.go s x n).2.2=n+(aP.go s l).length)
  | .val t=>⟨fun v x n h=>by cases v <;> rfl,fun l x n h=>by cases l <;> cases h⟩
  | .row e t b=>⟨fun v x n h=>by
    obtain⟨r,rfl,hg⟩:=uO h
    rfl,fun l x n h=>by cases l <;> cases h⟩
  | .unit=>⟨(fun v x n h=>by cases v <;> cases h),fun l x n h=>by
    have:=Cd h
    subst this
    rfl⟩
  | .ptr t=>⟨(fun v x n h=>by cases v <;> cases h),fun l x n h=>by cases l <;> cases h⟩
  | .strct s=>⟨fun v x n h=>by
    obtain⟨l,rfl,h'⟩:=p6 h
    exact(give_count s).2 l x n h',fun l x n h=>by cases l <;> cases h⟩
  | .pair a b=>⟨(fun v x n h=>by cases v <;> cases h),fun l x n h=>by
    obtain⟨v,l',rfl,h1,h2⟩:=kS h
    show(aR.go b x.2 (aR a x.1 n).2.2).2.2=n+(aP a v++aP.go b l').length
    rw[(give_count b).2 l' x.2 _ h2,(give_count a).1 v x.1 n h1,af_]
    omega⟩
theorem DQ (hR:iV L γ res (fun r=>r∈fr)) (hT:pR γ res) {s:Sh} {v:SV} {u:Value} {x:s.den} {n:Nat} (hv:RV L γ v u) (h:gh res s v=some x) (hf : ∀ r∈e8 s v,r∈fr) (hn:p5 γ γr (aP s v) n):RV L γr (aR s x n).1 u:=by
 cases s with
 | val t =>
  obtain⟨cs,rfl,hk⟩:=g9 hR (d':=9) (aq_ _) (by
   intro r hr
   exact hf r (by cases v <;> exact hr)) hv (Np h)
  exact .val hk
 | row e t b =>
  obtain⟨r,rfl,hg⟩:=uO h
  cases hv with
  | row hγ =>
   have:=hn 0 r rfl
   rw[eg_] at this
   exact .row (this.trans hγ)
 | unit=>cases v <;> cases h
 | ptr t=>cases v <;> cases h
 | pair a b=>cases v <;> cases h
 | strct s =>
  obtain⟨l,rfl,h'⟩:=p6 h
  cases hv with
  | strct hl =>
   obtain⟨t,h1,h2⟩:=(gT hR hT s).2 _ l _ x n hl h' hf hn
   exact .strct h2
theorem sE : ∀(s:Sh),(∀(v:SV) (x:s.den) (n:Nat),gh res s v=some x → ∀ p∈(aR s x n).2.1,∃(i r:Nat) (e:TypeId) (t:Ty) (xs:List t.den) (b:Bool),p=(n+i,some (.row e t xs b))∧(aP s v)[i]? = some r∧aL res r=some (.row e t xs b)) ∧
  (∀(l:List SV) (x:s.den) (n:Nat),gh.go res s l=some x → ∀ p∈(aR.go s x n).2.1,∃(i r:Nat) (e:TypeId) (t:Ty) (xs:List t.den) (b:Bool),p=(n+i,some (.row e t xs b))∧(aP.go s l)[i]? = some r∧aL res r=some (.row e t xs b))
 | .val t=>⟨fun v x n h p hp=>by simp[aR] at hp,fun l x n h=>by cases l <;> cases h⟩
 | .row e t b=>⟨fun v x n h p hp=>by
   obtain⟨r,rfl,hg⟩:=uO h
   simp only[aR,be_] at hp
   exact⟨0,r,e,t,x,b,hp,rfl,hg⟩,fun l x n h=>by cases l <;> cases h⟩
 | .unit=>⟨(fun v x n h=>by cases v <;> cases h),fun l x n h p hp=>by simp[aR.go] at hp⟩
 | .ptr t=>⟨(fun v x n h p hp=>by cases v <;> cases h),fun l x n h=>by cases l <;> cases h⟩
 | .strct s=>⟨fun v x n h p hp=>by
   obtain⟨l,rfl,h'⟩:=p6 h
   exact(sE s).2 l x n h' p hp,fun l x n h=>by cases l <;> cases h⟩
 | .pair a b=>⟨(fun v x n h=>by cases v <;> cases h),fun l x n h p hp=>by
   obtain⟨v,l',rfl,h1,h2⟩:=kS h
   have hp':p∈(aR a x.1 n).2.1++(aR.go b x.2 (aR a x.1 n).2.2).2.1:=hp
   have hro:aP.go (.pair a b) (v :: l')=aP a v++aP.go b l':=rfl
   rw[hro]
   rcases bo_.1 hp' with hp | hp
   ·obtain⟨i,r,e,t,xs,b',h3,h4,h5⟩:=(sE a).1 v x.1 n h1 p hp
    exact⟨i,r,e,t,xs,b',h3,by rw[bz_ (ax_.1 h4).1]; exact h4,h5⟩
   ·obtain⟨i,r,e,t,xs,b',h3,h4,h5⟩:=(sE b).2 l' x.2 _ h2 p hp
    have hc:=(gT.give_count a).1 v x.1 n h1
    refine⟨(aP a v).length+i,r,e,t,xs,b',?_,?_,h5⟩
    ·rw[h3,hc,dq_]
    ·rw[do_ (by omega)]
     simpa using h4⟩
variable {n0:Nat}
theorem we {t:Ty} {v:SV} {x:t.den} (h:rY n0 res (.ptr t) v=some x) : ∃ r c,v = .ptr r t []∧n0≤r∧aL res r=some (.box t c)∧dh [] 9 t c=some x:=by
 unfold rY at h
 cases v <;> first | (cases h; done) | skip
 rename_i r s p
 cases p with
 | cons _ _=>cases h
 | nil =>
  simp only at h
  split at h
  ·rename_i t' c hb hg
   split at h
   ·rename_i hs
    split at h
    ·rename_i ht
     subst hs
     subst ht
     exact⟨r,c,rfl,Nat.le_of_ble_eq_true hb,hg,h⟩
    ·cases h
   ·cases h
  ·cases h
theorem nZ {a b:Sh} {l:List SV} {x:(Sh.pair a b).den} (h:mc n0 res (.pair a b) l=some x) : ∃ v l',l=v :: l'∧rY n0 res a v=some x.1∧mc n0 res b l'=some x.2:=by
 cases l with
 | nil=>cases h
 | cons v l =>
  have h':((rY n0 res a v).bind fun x=>(mc n0 res b l).bind fun y=>some (x,y))=some x:=h
  rw[al_] at h'
  obtain⟨x1,h1,h'⟩:=h'
  rw[al_] at h'
  obtain⟨x2,h2,h'⟩:=h'
  cases h'
  exact⟨v,l,rfl,h1,h2⟩
theorem r9 {l:List SV} {x:Sh.unit.den} (h:mc n0 res .unit l=some x):l=[]:=by
 cases l with
 | nil=>rfl
 | cons v l=>cases h
theorem Ce : ∀(s:Sh) (v:SV) (x:s.den) (n:Nat),rY n0 res s v=some x→(aR s x n).2.2=n+(aP s v).length:=by
 intro s v x n h
 cases s with
 | val t=>exact(gT.give_count (res:=res) (.val t)).1 v x n h
 | row e t b=>exact(gT.give_count (res:=res) (.row e t b)).1 v x n h
 | strct s=>exact(gT.give_count (res:=res) (.strct s)).1 v x n h
 | pair a b =>
  have h':gh res (.pair a b) v=some x:=h
  cases v <;> cases h'
 | unit=>cases v <;> rfl
 | ptr t =>
  obtain⟨r,c,rfl,_⟩:=we h
  rfl
theorem GR : ∀(s:Sh) (l:List SV) (x:s.den) (n:Nat),mc n0 res s l=some x→(aR.go s x n).2.2=n+(aP.go s l).length
 | .val t,l,x,n,h=>by cases l <;> cases h
 | .row e t b,l,x,n,h=>by cases l <;> cases h
 | .strct s,l,x,n,h=>by cases l <;> cases h
 | .ptr t,l,x,n,h=>by cases l <;> cases h
 | .unit,l,x,n,h=>by
  have:=r9 h
  subst this
  rfl
 | .pair a b,l,x,n,h=>by
  obtain⟨v,l',rfl,h1,h2⟩:=nZ h
  show(aR.go b x.2 (aR a x.1 n).2.2).2.2=n+(aP a v++aP.go b l').length
  rw[GR b l' x.2 _ h2,Ce a v x.1 n h1,af_]
  omega
theorem abl (hR:iV L γ res (fun r=>r∈fr)) (hT:pR γ res) {s:Sh} {v:SV} {u:Value} {x:s.den} {n:Nat} (hv:RV L γ v u) (h:rY n0 res s v=some x) (hf : ∀ r∈e8 s v,r∈fr) (hn:p5 γ γr (aP s v) n):RV L γr (aR s x n).1 u:=by
 cases s with
 | val t=>exact DQ hR hT hv (s := .val t) h hf hn
 | row e t b=>exact DQ hR hT hv (s := .row e t b) h hf hn
 | strct s=>exact DQ hR hT hv (s := .strct s) h hf hn
 | pair a b=>exact DQ hR hT hv (s := .pair a b) h hf hn
 | unit=>exact .undef
 | ptr t =>
  obtain⟨r,c,rfl,_⟩:=we h
  cases hv with
  | ptr hk hp =>
   have h1:=hn 0 r rfl
   rw[eg_] at h1
   exact .ptr (h1.trans hk) hp
theorem Nq (hR:iV L γ res (fun r=>r∈fr)) (hT:pR γ res) : ∀(s:Sh) (l:List SV) (us:List Value) (x:s.den) (n:Nat),cG L γ l us→mc n0 res s l=some x→(∀ r∈e8.go s l,r∈fr)→p5 γ γr (aP.go s l) n→cG L γr (aR.go s x n).1 us
 | .val t,l,us,x,n,hv,h,hf,hn=>by cases l <;> cases h
 | .row e t b,l,us,x,n,hv,h,hf,hn=>by cases l <;> cases h
 | .strct s,l,us,x,n,hv,h,hf,hn=>by cases l <;> cases h
 | .ptr t,l,us,x,n,hv,h,hf,hn=>by cases l <;> cases h
 | .unit,l,us,x,n,hv,h,hf,hn=>by
  have:=r9 h
  subst this
  cases hv
  exact .nil
 | .pair a b,l,us,x,n,hv,h,hf,hn=>by
  obtain⟨v,l',rfl,h1,h2⟩:=nZ h
  cases hv with
  | cons hv hk =>
   have hro:aP.go (.pair a b) (v :: l')=aP a v++aP.go b l':=rfl
   rw[hro] at hn
   have hc:=Ce a v x.1 n h1
   exact .cons (abl hR hT hv h1 (fun r hr=>hf r (cq_ _ hr)) hn.left)
    (Nq hR hT b l' _ x.2 (aR a x.1 n).2.2 hk h2 (fun r hr=>hf r (ct_ _ hr)) (by rw[hc]; exact hn.right))
def sc (n0:Nat) (res:aQ) (r:Nat) (y:bj):Prop:=(∃(e:TypeId) (t:Ty) (xs:List t.den) (b:Bool),y = .row e t xs b∧aL res r=some y) ∨ ∃(t:Ty) (c:SV) (x:t.den),y = .box t (il (.val t x))∧n0≤r∧aL res r=some (.box t c)∧dh [] 9 t c=some x
theorem sc.old {r:Nat} {y:bj} (h:sc n0 res r y) : ∃ y0,aL res r=some y0∧(∀(γ:Nat→Option G) r,bD γ r y0=bD γ r y) ∧ ∀ o,jA y0 o→jA y o:=by
 rcases h with⟨e,t,xs,b,rfl,hg⟩ | ⟨t,c,x,rfl,_,hg,_⟩
 ·exact⟨_,hg,fun _ _=>rfl,fun _ h=>h⟩
 ·exact⟨_,hg,fun _ _=>rfl,fun _ h=>h⟩
theorem X1 : ∀(s:Sh) (v:SV) (x:s.den) (n:Nat),rY n0 res s v=some x→(∀ p∈(aR s x n).2.1,∃(i r:Nat) (y:bj),p=(n+i,some y)∧(aP s v)[i]? = some r∧sc n0 res r y):=by
 intro s v x n h p hp
 have old:(gh res s v=some x) → ∃(i r:Nat) (y:bj),p=(n+i,some y)∧(aP s v)[i]? = some r∧sc n0 res r y:=fun h=>by
  obtain⟨i,r,e,t,xs,b,h1,h2,h3⟩:=(sE s).1 v x n h p hp
  exact⟨i,r,_,h1,h2,.inl ⟨e,t,xs,b,rfl,h3⟩⟩
 cases s with
 | val t=>exact old h
 | row e t b=>exact old h
 | strct s=>exact old h
 | pair a b=>exact old h
 | unit=>simp[aR] at hp
 | ptr t =>
  obtain⟨r,c,rfl,h1,h2,h3⟩:=we h
  simp only[aR,be_] at hp
  exact⟨0,r,_,hp,rfl,.inr ⟨t,c,x,rfl,h1,h2,h3⟩⟩
theorem Kt : ∀(s:Sh) (l:List SV) (x:s.den) (n:Nat),mc n0 res s l=some x → ∀ p∈(aR.go s x n).2.1,∃(i r:Nat) (y:bj),p=(n+i,some y)∧(aP.go s l)[i]? = some r∧sc n0 res r y
 | .val t,l,x,n,h=>by cases l <;> cases h
 | .row e t b,l,x,n,h=>by cases l <;> cases h
 | .strct s,l,x,n,h=>by cases l <;> cases h
 | .ptr t,l,x,n,h=>by cases l <;> cases h
 | .unit,l,x,n,h=>fun p hp=>by simp[aR.go] at hp
 | .pair a b,l,x,n,h=>fun p hp=>by
  obtain⟨v,l',rfl,h1,h2⟩:=nZ h
  have hp':p∈(aR a x.1 n).2.1++(aR.go b x.2 (aR a x.1 n).2.2).2.1:=hp
  have hro:aP.go (.pair a b) (v :: l')=aP a v++aP.go b l':=rfl
  rw[hro]
  rcases bo_.1 hp' with hp | hp
  ·obtain⟨i,r,y,h3,h4,h5⟩:=X1 a v x.1 n h1 p hp
   exact⟨i,r,y,h3,by rw[bz_ (ax_.1 h4).1]; exact h4,h5⟩
  ·obtain⟨i,r,y,h3,h4,h5⟩:=Kt b l' x.2 _ h2 p hp
   have hc:=Ce a v x.1 n h1
   refine⟨(aP a v).length+i,r,y,?_,?_,h5⟩
   ·rw[h3,hc,dq_]
   ·rw[do_ (by omega)]
    simpa using h4
end
end Go.Proofs.YthbkdfcmjmmpgaaGreatDoor.Abs
namespace Go.Proofs.YthbkdfcmjmmpgaaGreatDoor.Abs
open Go Go.RowKit
section
variable {L:Lk} {γ γr:Nat→Option G} {res:aQ} {fr:List Nat}
theorem abm {n0:Nat} {s:Sh} {v:SV} {x:s.den} (h:rY n0 res s v=some x):v ≠ .undef:=by
 rintro rfl
 cases s <;> first | (cases h; done) | skip
theorem Rx {n0:Nat} : ∀ {s:Sh} {l:List SV} {x:s.den},mc n0 res s l=some x → ∀ v∈l,v ≠ .undef
 | .val t,l,x,h=>by cases l <;> cases h
 | .row e t b,l,x,h=>by cases l <;> cases h
 | .strct s,l,x,h=>by cases l <;> cases h
 | .ptr t,l,x,h=>by cases l <;> cases h
 | .unit,l,x,h=>by
  have:=r9 h
  subst this
  intro v hv
  simp at hv
 | .pair a b,l,x,h=>by
  obtain⟨v,l',rfl,h1,h2⟩:=nZ h
  intro u hu
  rcases bi_.1 hu with rfl | hu
  ·exact abm h1
  ·exact Rx h2 u hu
theorem uP : ∀(s:Sh),(∀(v:SV) (x:s.den),gh res s v=some x → ∀ r∈aP s v,∃(e:TypeId) (t:Ty) (xs:List t.den) (b:Bool),aL res r=some (.row e t xs b)) ∧
  (∀(l:List SV) (x:s.den),gh.go res s l=some x → ∀ r∈aP.go s l,∃(e:TypeId) (t:Ty) (xs:List t.den) (b:Bool),aL res r=some (.row e t xs b))
 | .val t=>⟨fun v x h r hr=>by cases v <;> simp[aP] at hr,fun l x h=>by cases l <;> cases h⟩
 | .row e t b=>⟨fun v x h r hr=>by
   obtain⟨r',rfl,hg⟩:=uO h
   have:r=r':=by simpa[aP] using hr
   subst this
   exact⟨e,t,x,b,hg⟩,fun l x h=>by cases l <;> cases h⟩
 | .unit=>⟨fun v x h=>(by cases v <;> cases h),fun l x h r hr=>by
   have:=Cd h
   subst this
   simp[aP.go] at hr⟩
 | .ptr t=>⟨fun v x h=>(by cases v <;> cases h),fun l x h=>by cases l <;> cases h⟩
 | .strct s=>⟨fun v x h=>by
   obtain⟨l,rfl,h'⟩:=p6 h
   exact(uP s).2 l x h',fun l x h=>by cases l <;> cases h⟩
 | .pair a b=>⟨fun v x h=>(by cases v <;> cases h),fun l x h r hr=>by
   obtain⟨v,l',rfl,h1,h2⟩:=kS h
   have hr':r∈aP a v++aP.go b l':=hr
   rcases bo_.1 hr' with hr | hr
   ·exact(uP a).1 v x.1 h1 r hr
   ·exact(uP b).2 l' x.2 h2 r hr⟩
theorem aac {n0:Nat} : ∀(s:Sh) (v:SV) (x:s.den),rY n0 res s v=some x → ∀ r∈aP s v,∃ y,sc n0 res r y:=by
 intro s v x h r hr
 have old:gh res s v=some x → ∃ y,sc n0 res r y:=fun h=>by
  obtain⟨e,t,xs,b,hg⟩:=(uP s).1 v x h r hr
  exact⟨_,.inl ⟨e,t,xs,b,rfl,hg⟩⟩
 cases s with
 | val t=>exact old h
 | row e t b=>exact old h
 | strct s=>exact old h
 | pair a b=>exact old h
 | unit=>cases v <;> simp[aP] at hr
 | ptr t =>
  obtain⟨r',c,rfl,h1,h2,h3⟩:=we h
  have:r=r':=by simpa[aP] using hr
  subst this
  exact⟨_,.inr ⟨t,c,x,rfl,h1,h2,h3⟩⟩
theorem Nr {n0:Nat} : ∀(s:Sh) (l:List SV) (x:s.den),mc n0 res s l=some x → ∀ r∈aP.go s l,∃ y,sc n0 res r y
 | .val t,l,x,h=>by cases l <;> cases h
 | .row e t b,l,x,h=>by cases l <;> cases h
 | .strct s,l,x,h=>by cases l <;> cases h
 | .ptr t,l,x,h=>by cases l <;> cases h
 | .unit,l,x,h=>fun r hr=>by
  have:=r9 h
  subst this
  simp[aP.go] at hr
 | .pair a b,l,x,h=>fun r hr=>by
  obtain⟨v,l',rfl,h1,h2⟩:=nZ h
  have hr':r∈aP a v++aP.go b l':=hr
  rcases bo_.1 hr' with hr | hr
  ·exact aac a v x.1 h1 r hr
  ·exact Nr b l' x.2 h2 r hr
theorem sF {rb:Bool} (hR:iV L γ res (fun r=>r∈fr)) (hT:pR γ res) : ∀(tab:aQ) (s:Sh) (cs:List SV) (y:s.den) (n:Nat) (ub:List (Option bj)),mV rb res tab=some cs→gh.go res s cs=some y→cN rb tab (aR.go s y n).1 (rX s)=some ub →
  (∀ r∈e8.go s cs,r∈fr)→p5 γ γr (aP.go s cs) n → ∀(j:Nat) (t:Ty) (c':SV),ub[j]? = some (some (.box t c')) → ∃(key:Nat) (c c0:SV),tab[j]? = some (key,.box t c0)∧aL res key=some (.box t c) ∧ ∀ cells,RT L γ t c cells→RT L γr t c' cells
 | [],s,cs,y,n,ub,_,_,hb,_,_,j,t,c',hj=>by
  have:=(j0 hb).1
  rw[cc_ this] at hj
  simp at hj
 | (k,.row e t0 xs fr0) :: l,s,cs,y,n,ub,hbx,ho,hb,hf,hn,j,t,c',hj=>by
  cases rb with
  | false =>
   unfold cN at hb
   simp only[al_,bd_] at hb
   obtain⟨u',h1,rfl⟩:=hb
   have hbx':mV false res l=some cs:=hbx
   cases j with
   | zero=>simp at hj
   | succ j =>
    obtain⟨key,c,c0,h2,h3,h4⟩:=sF hR hT l s cs y n u' hbx' ho h1 hf hn j t c' (by simpa using hj)
    exact⟨key,c,c0,by simpa using h2,h3,h4⟩
  | true =>
   unfold mV at hbx
   simp only[al_,bd_] at hbx
   obtain⟨cs',h1,rfl⟩:=hbx
   cases s with
   | val _=>cases ho
   | row _ _ _=>cases ho
   | strct _=>cases ho
   | ptr _=>cases ho
   | unit=>cases ho
   | pair a b =>
    obtain⟨v,l',he,h2,h3⟩:=kS ho
    cases he
    have hro:aP.go (.pair a b) (.row k :: cs')=aP a (.row k)++aP.go b cs':=rfl
    rw[hro] at hn
    have hc:=(gT.give_count a).1 (.row k) y.1 n h2
    have hmk:(aR.go (.pair a b) y n).1=(aR a y.1 n).1 :: (aR.go b y.2 (aR a y.1 n).2.2).1:=rfl
    rw[hmk] at hb
    have hst:rX (.pair a b)=zJ a :: rX b:=rfl
    rw[hst] at hb
    unfold cN at hb
    simp only at hb
    split at hb
    ·rename_i m1 vs1 s1 ts1 hv1 hs1
     obtain⟨_,rfl⟩:=fy_ hv1
     obtain⟨_,rfl⟩:=fy_ hs1
     simp only[al_,bd_] at hb
     obtain⟨u',h4,rfl⟩:=hb
     cases j with
     | zero=>simp at hj
     | succ j =>
      obtain⟨key,c1,c2,h5,h6,h7⟩:=sF hR hT l b cs' y.2 (aR a y.1 n).2.2 u' h1 h3 h4 (fun r hr=>hf r (ct_ _ hr)) (by rw[hc]; exact hn.right) j t c' (by simpa using hj)
      exact⟨key,c1,c2,by simpa using h5,h6,h7⟩
    ·cases hb
 | (k,.old e t0 xs) :: l,s,cs,y,n,ub,hbx,ho,hb,hf,hn,j,t,c',hj=>by
  unfold cN at hb
  simp only[al_] at hb
  obtain⟨u',h1,he⟩:=hb
  cases he
  cases j with
  | zero=>simp at hj
  | succ j =>
   obtain⟨key,c,c0,h2,h3,h4⟩:=sF hR hT l s cs y n u' hbx ho h1 hf hn j t c' (by simpa using hj)
   exact⟨key,c,c0,by simpa using h2,h3,h4⟩
 | (k,.gone e t0 xs) :: l,s,cs,y,n,ub,hbx,ho,hb,hf,hn,j,t,c',hj=>by
  unfold cN at hb
  simp only[al_] at hb
  obtain⟨u',h1,he⟩:=hb
  cases he
  cases j with
  | zero=>simp at hj
  | succ j =>
   obtain⟨key,c,c0,h2,h3,h4⟩:=sF hR hT l s cs y n u' hbx ho h1 hf hn j t c' (by simpa using hj)
   exact⟨key,c,c0,by simpa using h2,h3,h4⟩
 | (k,.keepF g0 caps0) :: l,s,cs,y,n,ub,hbx,ho,hb,hf,hn,j,t,c',hj=>by
  unfold cN at hb
  simp only[al_] at hb
  obtain⟨u',h1,he⟩:=hb
  cases he
  cases j with
  | zero=>simp at hj
  | succ j =>
   obtain⟨key,c,c0,h2,h3,h4⟩:=sF hR hT l s cs y n u' hbx ho h1 hf hn j t c' (by simpa using hj)
   exact⟨key,c,c0,by simpa using h2,h3,h4⟩
 | (k,.rowP g0 caps0) :: l,s,cs,y,n,ub,hbx,ho,hb,hf,hn,j,t,c',hj=>by
  unfold cN at hb
  simp only[al_] at hb
  obtain⟨u',h1,he⟩:=hb
  cases he
  cases j with
  | zero=>simp at hj
  | succ j =>
   obtain⟨key,c,c0,h2,h3,h4⟩:=sF hR hT l s cs y n u' hbx ho h1 hf hn j t c' (by simpa using hj)
   exact⟨key,c,c0,by simpa using h2,h3,h4⟩
 | (k,.box t0 c0) :: l,s,cs,y,n,ub,hbx,ho,hb,hf,hn,j,t,c',hj=>by
  unfold mV at hbx
  split at hbx
  ·rename_i t' c hg
   split at hbx
   ·rename_i htt
    subst htt
    rw[al_] at hbx
    obtain⟨cs',h1,he⟩:=hbx
    cases he
    cases s with
    | val _=>cases ho
    | row _ _ _=>cases ho
    | strct _=>cases ho
    | ptr _=>cases ho
    | unit=>cases ho
    | pair a b =>
     obtain⟨v,l',he,h2,h3⟩:=kS ho
     cases he
     have hro:aP.go (.pair a b) (c :: cs')=aP a c++aP.go b cs':=rfl
     rw[hro] at hn
     have hc:=(gT.give_count a).1 c y.1 n h2
     have hmk:(aR.go (.pair a b) y n).1=(aR a y.1 n).1 :: (aR.go b y.2 (aR a y.1 n).2.2).1:=rfl
     rw[hmk] at hb
     have hst:rX (.pair a b)=zJ a :: rX b:=rfl
     rw[hst] at hb
     unfold cN at hb
     split at hb
     ·rename_i v1 vs1 s1 ts1 hv1 hs1
      cases hv1
      obtain⟨hs2,rfl⟩:=fy_ hs1
      split at hb
      ·rename_i hs1t
       rw[al_] at hb
       obtain⟨u',h4,he⟩:=hb
       cases he
       cases j with
       | zero =>
        simp only[List.getElem?_cons_zero,bd_,bj.box.injEq] at hj
        obtain⟨rfl,rfl⟩:=hj
        refine⟨k,c,c0,rfl,hg,fun cells hcells => ?_⟩
        obtain⟨t2,h5,h6⟩:=(gT hR hT a).1 _ c cells y.1 n hcells h2 (fun r hr=>hf r (cq_ _ hr)) hn.left
        rw[hs2] at h5
        cases h5
        rw[←hs1t]
        exact h6
       | succ j =>
        obtain⟨key,c1,c2,h5,h6,h7⟩:=sF hR hT l b cs' y.2 (aR a y.1 n).2.2 u' h1 h3 h4 (fun r hr=>hf r (ct_ _ hr)) (by rw[hc]; exact hn.right) j t c' (by simpa using hj)
        exact⟨key,c1,c2,by simpa using h5,h6,h7⟩
      ·cases hb
     ·cases hb
   ·cases hbx
  ·cases hbx
theorem pn {rb:Bool} : ∀(tab:aQ) (s:Sh) (cs:List SV) (y:s.den) (n:Nat),mV rb res tab=some cs→gh.go res s cs=some y→p5 γ γr (aP.go s cs) n → ∀ p∈dv rb tab (aR.go s y n).1,γr p.1=γ p.2
 | [],s,cs,y,n,_,_,_,p,hp=>by
  generalize (aR.go s y n).1=bs at hp
  cases bs <;> simp[dv] at hp
 | (k,.box t0 c0) :: l,s,cs,y,n,hbx,ho,hn,p,hp=>by
  unfold mV at hbx
  split at hbx
  ·split at hbx
   ·simp only[al_,bd_] at hbx
    obtain⟨cs',h1,rfl⟩:=hbx
    cases s with
    | val _=>cases ho
    | row _ _ _=>cases ho
    | strct _=>cases ho
    | ptr _=>cases ho
    | unit=>cases ho
    | pair a b =>
     obtain⟨v,l',he,h2,h3⟩:=kS ho
     cases he
     have hro : ∀ c,aP.go (.pair a b) (c :: cs')=aP a c++aP.go b cs':=fun _=>rfl
     rw[hro] at hn
     have hc:=(gT.give_count a).1 _ y.1 n h2
     have hp':p∈dv rb l (aR.go b y.2 (aR a y.1 n).2.2).1:=hp
     exact pn l b cs' y.2 _ h1 h3 (by rw[hc]; exact hn.right) p hp'
   ·cases hbx
  ·cases hbx
 | (k,.old e t0 xs) :: l,s,cs,y,n,hbx,ho,hn,p,hp=>pn l s cs y n hbx ho hn p (by unfold dv at hp; exact hp)
 | (k,.gone e t0 xs) :: l,s,cs,y,n,hbx,ho,hn,p,hp=>pn l s cs y n hbx ho hn p (by unfold dv at hp; exact hp)
 | (k,.keepF g0 caps0) :: l,s,cs,y,n,hbx,ho,hn,p,hp=>pn l s cs y n hbx ho hn p (by unfold dv at hp; exact hp)
 | (k,.rowP g0 caps0) :: l,s,cs,y,n,hbx,ho,hn,p,hp=>pn l s cs y n hbx ho hn p (by unfold dv at hp; exact hp)
 | (k,.row e t0 xs fr0) :: l,s,cs,y,n,hbx,ho,hn,p,hp=>by
  cases rb with
  | false =>
   have hbx':mV false res l=some cs:=hbx
   exact pn l s cs y n hbx' ho hn p (by unfold dv at hp; exact hp)
  | true =>
   unfold mV at hbx
   simp only[al_,bd_] at hbx
   obtain⟨cs',h1,rfl⟩:=hbx
   cases s with
   | val _=>cases ho
   | row _ _ _=>cases ho
   | strct _=>cases ho
   | ptr _=>cases ho
   | unit=>cases ho
   | pair a b =>
    obtain⟨v,l',he,h2,h3⟩:=kS ho
    cases he
    have hro:aP.go (.pair a b) (.row k :: cs')=aP a (.row k)++aP.go b cs':=rfl
    rw[hro] at hn
    have hc:=(gT.give_count a).1 (.row k) y.1 n h2
    have hmk:(aR.go (.pair a b) y n).1=(aR a y.1 n).1 :: (aR.go b y.2 (aR a y.1 n).2.2).1:=rfl
    rw[hmk] at hp
    unfold dv at hp
    simp only at hp
    split at hp
    ·rename_i m vs hv
     obtain⟨hv1,rfl⟩:=fy_ hv
     rcases bi_.1 hp with rfl | hp
     ·cases a with
      | val t=>cases hv1
      | row e' t' fr' =>
       have hv2:SV.row n = .row m:=hv1
       cases hv2
       have:=hn.left 0 k rfl
       simpa using this
      | unit=>cases h2
      | pair _ _=>cases h2
      | strct _=>cases h2
      | ptr _=>cases h2
     ·exact pn l b cs' y.2 _ h1 h3 (by rw[hc]; exact hn.right) p hp
    ·simp at hp
theorem Ns : ∀ {u:Up} {get:Nat→Option bj} {m:Nat} {y:bj},bL get u m=some y→(m,some y)∈u∨get m=some y
 | [],get,m,y,h => .inr h
 | (k,x) :: u,get,m,y,h=>by
  rcases Ns (u:=u) (show bL (fun s=>if s=k then x else get s) u m=some y from h) with h2 | h2
  ·exact .inl (ar_ _ h2)
  ·by_cases hk:m=k
   ·rw[ae_ hk] at h2
    subst hk
    rw[h2]
    exact .inl (by simp)
   ·rw[ac_ hk] at h2
    exact .inr h2
end
section
variable {P:Program} {E:cP} {w0:World} {X:Nat→Prop} {Pr0:Nat→Nat→Prop} {γ:Nat→Option G} {Pr:Nat→Nat→Prop} {a:Act} {w:World} {σ:St}
abbrev rh (a:Act):ResultVar→Sem Value:=fun
 | .tmp t=>pure (a.tmps.getD t undef)
 | .cell c t=>do loadVar t (←asAddr (a.tmps.getD c undef))
theorem VB (hE:fY P E) (hI:bH w0 X Pr0 σ.slots (aL σ.res) γ Pr a w) (rv:ResultVar) (hne:given E σ rv ≠ .undef) : ∃ val,(rh a rv).run P w = .ok val w∧RV (Ln Pr w) γ (given E σ rv) val:=by
 cases rv with
 | tmp t=>exact⟨_,rfl,MB hI.slots (.tmp t)⟩
 | cell c T =>
  have hev:=MB hI.slots (.tmp c)
  simp only[ev,Act.eval] at hev
  simp only[given] at hne ⊢
  split at hne
  ·rename_i r s path t hsl hT
   split at hne
   ·rename_i bt c' hg
    split at hne
    ·rename_i v hv
     split at hne
     ·rename_i hst
      subst hst
      rw[hsl] at hev
      obtain⟨cs,h1,h2⟩:=Fq (P:=P) hI hev hg (ci hE hT).2 hv
      refine⟨mk s cs,?_,?_⟩
      ·generalize hx:a.tmps.getD c undef=x at *
       cases hev with
       | ptr hb hp =>
        simp only[Instr.loadAt,Instr.sureAddr,bg_,bk_,au_] at h1
        simp only[rh,hx,asAddr,bg_,bk_,au_]
        exact h1
      ·simp only[hsl,hT,hg,hv,ae_]
       exact S5 h2
     ·exact bh_ rfl hne
    ·exact bh_ rfl hne
   ·exact bh_ rfl hne
  ·exact bh_ rfl hne
theorem GS (hE:fY P E) (hI:bH w0 X Pr0 σ.slots (aL σ.res) γ Pr a w) : ∀(l:List ResultVar),(∀ v∈l.map (given E σ),v ≠ .undef) → ∃ vals,(l.mapM (rh a)).run P w = .ok vals w∧cG (Ln Pr w) γ (l.map (given E σ)) vals
 | [],_=>⟨[],by simp,.nil⟩
 | rv :: l,h=>by
  obtain⟨val,h1,h2⟩:=VB hE hI rv (h _ (by simp))
  obtain⟨vals,h3,h4⟩:=GS hE hI l (fun v hv=>h v (by rw[dc_]; exact ar_ _ hv))
  refine⟨val :: vals,?_,.cons h2 h4⟩
  simp only[List.mapM_cons,bg_,h1,au_,h3,bk_]
theorem Qj {fn:Func} {vals:List Value} (h:(fn.results.toList.mapM (rh a)).run P w = .ok vals w):(results fn a.tmps).run P w = .ok (B8 vals) w:=by
 have hm:(fn.results.mapM (rh a)).run P w = .ok vals.toArray w:=by
  rw[Array.mapM_eq_mapM_toList,Sem.run_map,h]
  rfl
 show(do let vs ←fn.results.mapM (rh a); pure (if h:vs.size=1 then vs[0] else .tuple vs):Sem Value).run P w=_
 simp only[bg_,hm,au_,bk_]
 congr 1
 match vals with
 | []=>rfl
 | [v]=>rfl
 | v :: v' :: l =>
  rw[dif_neg (by simp)]
  rfl
theorem Nt {Gp:WP} (hE:fY P E) (hP:yl Gp P E) {k:Nat} (hR : ∀ w0 X,Gp w0 X→MC P E w0 X k):k7 Gp P E (ff E (run E k)):=by
 intro I args tab z key hg hz
 unfold ff at hz
 split at hz
 ·rename_i f hf
  exact hP I f key hg hf args tab z hz
 intro hcanon w γ Pr us hGp hI hlim N hN vs u n bs u' n' ub hmk1 hmk2 hub
 obtain⟨hfn,hbody,_⟩:=hE.fns key I hg
 obtain⟨c,hc⟩ : ∃ c,I.fn.body=some c:=by
  cases hb:I.fn.body with
  | none=>rw[hb] at hbody; cases hbody
  | some c=>exact⟨c,rfl⟩
 have hbo:aW I.fn=c:=by unfold aW; rw[hc]
 refine calls_of_wp hfn hc ?_
 have hlen:args.length=us.length:=Ri hI.slots
 have hrep : ∀ m,cG (Ln Pr w) γ (bn_ m .undef) (bn_ m undef):=by
  intro m
  induction m with
  | zero=>exact .nil
  | succ m ih=>exact .cons .undef ih
 have hI0:bH w (nE tab γ) Pr (start I args tab).slots (aL (start I args tab).res) γ Pr {tmps:=us.toArray++Array.replicate (I.fn.ntmps - us.toArray.size) undef,defers:=[]} w:=by
  refine⟨?_,rfl,hI.gs,hI.wfs,hI.res,hI.apart,hI.loose,hI.where_,hI.frame,hI.size,hI.os,hI.tape,hI.output,hI.prIn,hI.prOld,hI.pr0⟩
  show cG (Ln Pr w) γ (args++bn_ (I.fn.ntmps - args.length) .undef) (us.toArray++Array.replicate (I.fn.ntmps - us.toArray.size) undef).toList
  have:(us.toArray++Array.replicate (I.fn.ntmps - us.toArray.size) undef).toList=us++bn_ (I.fn.ntmps - us.length) undef:=by simp
  rw[this,hlen]
  exact zR hI.slots (hrep _)
 have hz':run E k I (fC E I tab) c [] (start I args tab)=some z:=by rw[←hbo]; exact hz
 refine hR w (nE tab γ) hGp I (fC E I tab) c [] (start I args tab) z hz' Pr γ γ Pr _ w (bodyPost P I.fn _) ⟨hI0,fun _ _=>rfl,hlim,aq_ _⟩ ?_ k (aq_ _)
 intro σ' γ' Pr' a' w' hfin hA hn0
 have key:a'.defers=[] ∧ ∃ v,(results I.fn a'.tmps).run P w' = .ok v w' ∧ ∃ vals γr Pr2,Ending.returned v = .returned (B8 vals)∧xm w (nE tab γ) γ Pr N n' vs ub (u++u') vals γr Pr2 w' ∧ ∀ p∈dv I.rb tab bs,γr p.1=γ p.2:=by
  refine⟨hA.inv.defers,?_⟩
  unfold fC at hfin
  simp only[al_] at hfin
  obtain⟨x,hx,cs,hcs,y,hy,hfin⟩:=hfin
  split at hfin
  ·rename_i honce hmeet
   cases hfin
   obtain⟨vals,hrun,hvals⟩:=GS hE hA.inv I.fn.results.toList (Rx hx)
   refine⟨B8 vals,Qj hrun,vals,?_⟩
   obtain⟨Pr2,hI2,hP2,hR2,hsame,_,hkeep⟩:=jZ (res:=σ'.res) hA.inv (fun r x h=>h) (e8.go I.sh (I.fn.results.toList.map (given E σ'))++e8.go I.bx cs)
   have hT2:pR γ' σ'.res:=hA.inv.tys (fun r x h=>h)
   have hL2 : ∀ b o v,Ln Pr' w' b o v→Ln Pr2 w' b o v:=fun b o v h=>⟨hP2 _ _ h.1,h.2⟩
   have hnd:=Fv honce
   have hn0':σ'.n0=tab.length:=hn0
   have hnumb:p5 γ' (fun m=>if N≤m then((ce I.sh (I.fn.results.toList.map (given E σ'))++ce I.bx cs)[m - N]?).bind γ' else none) (ce I.sh (I.fn.results.toList.map (given E σ'))++ce I.bx cs) N:=by
    intro i r hr
    show(if N≤N+i then _ else none)=_
    rw[ae_ (by omega),fx_,hr]
    rfl
   have hcnt1:n=N+(ce I.sh (I.fn.results.toList.map (given E σ'))).length:=by
    have:=GR I.sh _ x N hx
    have h2:(aR.go I.sh x N).2.2=n:=by
     have h3:aR.go I.sh x N=(vs,u,n):=hmk1
     rw[h3]
    rw[←h2]
    exact this
   have hcnt2:n'=N+(ce I.sh (I.fn.results.toList.map (given E σ'))++ce I.bx cs).length:=by
    have:=(gT.give_count I.bx).2 _ y n hy
    have h2:(aR.go I.bx y n).2.2=n':=by
     have h3:aR.go I.bx y n=(bs,u',n'):=hmk2
     rw[h3]
    rw[←h2,this,hcnt1,af_,dq_]
    rfl
   have hvs:vs=(aR.go I.sh x N).1:=by
    have h3:aR.go I.sh x N=(vs,u,n):=hmk1
    rw[h3]
   have hbs:bs=(aR.go I.bx y n).1:=by
    have h3:aR.go I.bx y n=(bs,u',n'):=hmk2
    rw[h3]
   have hro : ∀ r∈ce I.sh (I.fn.results.toList.map (given E σ'))++ce I.bx cs,∃ y1,sc tab.length σ'.res r y1:=by
    intro r hr
    rcases bo_.1 hr with hr | hr
    ·exact Nr I.sh _ x hx r hr
    ·obtain⟨e,t,xs,b,hg⟩:=(uP I.bx).2 _ y hy r hr
     exact⟨_,.inl ⟨e,t,xs,b,rfl,hg⟩⟩
   have hget2 : ∀ r∈ce I.sh (I.fn.results.toList.map (given E σ'))++ce I.bx cs,bL (aL σ'.res) (cw σ'.res (e8.go I.sh (I.fn.results.toList.map (given E σ'))++e8.go I.bx cs)) r=aL σ'.res r:=fun r hr=>hsame r (fun h=>pk hmeet r hr h)
   have hrows : ∀ m w1,mj (u++u') m=some w1 → ∃(i r:Nat),m=N+i∧(ce I.sh (I.fn.results.toList.map (given E σ'))++ce I.bx cs)[i]? = some r∧sc tab.length σ'.res r w1:=by
    intro m w1 h
    rcases Ns h with h | h
    ·have hu1:u=(aR.go I.sh x N).2.1:=by
      have h3:aR.go I.sh x N=(vs,u,n):=hmk1
      rw[h3]
     have hu2:u'=(aR.go I.bx y n).2.1:=by
      have h3:aR.go I.bx y n=(bs,u',n'):=hmk2
      rw[h3]
     rcases bo_.1 h with h | h
     ·rw[hu1] at h
      obtain⟨i,r,y1,h1,h2,h3⟩:=Kt I.sh _ x N hx _ h
      cases h1
      exact⟨i,r,rfl,(bz_ (ax_.1 h2).1).trans h2,h3⟩
     ·rw[hu2] at h
      obtain⟨i,r,e,t,xs,b,h1,h2,h3⟩:=(sE I.bx).2 _ y n hy _ h
      cases h1
      refine⟨(ce I.sh (I.fn.results.toList.map (given E σ'))).length+i,r,by rw[hcnt1,dq_],?_,.inl ⟨e,t,xs,b,rfl,h3⟩⟩
      rw[do_ (by omega),fx_]
      exact h2
    ·cases h
   have hinj : ∀(i i' r:Nat),(ce I.sh (I.fn.results.toList.map (given E σ'))++ce I.bx cs)[i]? = some r→(ce I.sh (I.fn.results.toList.map (given E σ'))++ce I.bx cs)[i']? = some r→i=i':=by
    intro i i' r h h'
    exact(List.getElem?_inj (ax_.1 h).1 hnd).1 (h.trans h'.symm)
   have hblk : ∀(i r:Nat) (y:bj),(ce I.sh (I.fn.results.toList.map (given E σ'))++ce I.bx cs)[i]? = some r→bD (fun m=>if N≤m then((ce I.sh (I.fn.results.toList.map (given E σ'))++ce I.bx cs)[m - N]?).bind γ' else none) (N+i) y=bD γ' r y:=by
    intro i r y h
    have:=hnumb i r h
    cases y <;> simp only[bD,this]
   have hbox:=sF (γ:=γ') (γr:=fun m=>if N≤m then((ce I.sh (I.fn.results.toList.map (given E σ'))++ce I.bx cs)[m - N]?).bind γ' else none) hR2 hT2 tab I.bx cs y n ub hcs hy (by rw[←hbs]; exact hub) (fun r hr=>ct_ _ hr) (by rw[hcnt1]; exact hnumb.right)
   have hboxγ : ∀(j:Nat) (t:Ty) (c':SV),ub[j]? = some (some (.box t c')) → ∃ c1,aL σ'.res j=some (.box t c1)∧γ' j=γ j∧bL (aL σ'.res) (cw σ'.res (e8.go I.sh (I.fn.results.toList.map (given E σ'))++e8.go I.bx cs)) j=some (.box t c1) ∧ ∀ cells,RT (Ln Pr2 w') γ' t c1 cells→RT (Ln Pr2 w') (fun m=>if N≤m then((ce I.sh (I.fn.results.toList.map (given E σ'))++ce I.bx cs)[m - N]?).bind γ' else none) t c' cells:=by
    intro j t c' hj
    obtain⟨key,c1,c0,h1,h2,h3⟩:=hbox j t c' hj
    have hkj:key=j:=hcanon j _ h1
    subst hkj
    have hjl:key < tab.length:=(ax_.1 h1).1
    refine⟨c1,h2,hA.low key (by rw[hn0']; exact hjl),?_,h3⟩
    rw[hkeep key (fun e t xs b h=>by rw[h2] at h; cases h)]
    exact h2
   refine⟨fun m=>if N≤m then((ce I.sh (I.fn.results.toList.map (given E σ'))++ce I.bx cs)[m - N]?).bind γ' else none,Pr2,rfl,?_,?_⟩
   rotate_left
   ·intro p hp
    rw[hbs] at hp
    have h1:=pn (γ:=γ') (γr:=fun m=>if N≤m then((ce I.sh (I.fn.results.toList.map (given E σ'))++ce I.bx cs)[m - N]?).bind γ' else none) tab I.bx cs y n hcs hy (by rw[hcnt1]; exact hnumb.right) p hp
    rw[←hbs] at hp
    obtain⟨j,q,h2,h3,_⟩:=jK hub p hp
    have h4:p.2 < tab.length:=by
     rw[←h3,hcanon j q h2]
     exact(ax_.1 h2).1
    rw[←hA.low p.2 (by rw[hn0']; exact h4)]
    exact h1
   constructor
   case vals =>
    rw[hvs]
    exact Nq hR2 hT2 I.sh _ vals x N (g8 hL2 (fun _ _ h=>h) hvals) hx (fun r hr=>cq_ _ hr) hnumb.left
   case lim =>
    intro r g hr
    split at hr
    ·rename_i hNr
     rw[al_] at hr
     obtain⟨s,hs,hγ⟩:=hr
     have hsl:=(ax_.1 hs).1
     refine⟨⟨hNr,by rw[hcnt2]; omega⟩,?_⟩
     obtain⟨_,⟨e,t,xs,b,rfl,hrow⟩ | ⟨t,c,x1,rfl,_,hrow,_⟩⟩:=hro s (cd_ hs)
     ·obtain⟨v,css,hv,_⟩:=hA.inv.res s _ hrow
      rw[hγ] at hv
      cases hv
      obtain⟨A,m,c,rfl⟩:=hA.inv.gs _ _ _ _ hγ
      exact .inl ⟨e,t,A,m,c,rfl⟩
     ·obtain⟨b,arr,T,hv,_⟩:=hA.inv.res s _ hrow
      rw[hγ] at hv
      cases hv
      exact .inr ⟨b,t,rfl,hA.inv.wfs _ _ _ hγ⟩
    ·cases hr
   case box =>
    intro j t c' hj
    obtain⟨c1,h1,h2,h3,h4⟩:=hboxγ j t c' hj
    obtain⟨b,arr,T,h5,h6,h7⟩:=hI2.res j _ h3
    exact⟨b,arr,T,by rw[←h2]; exact h5,h6,h7.map h4⟩
   case row =>
    intro m w1 h
    obtain⟨i,r,rfl,h1,h2⟩:=hrows m w1 h
    have hil:=(ax_.1 h1).1
    refine⟨by omega,by rw[hcnt2]; omega,?_⟩
    rcases h2 with⟨e,t,xs,b,rfl,h2⟩ | ⟨t,c,x1,rfl,_,h2,h7⟩
    ·obtain⟨v,css,h3,h4,h5,h6⟩:=hI2.res r _ ((hget2 r (cd_ h1)).trans h2)
     exact⟨v,css,(hnumb i r h1).trans h3,h4,h5,h6⟩
    ·obtain⟨b,arr,T,h3,h4,h5⟩:=hI2.res r _ ((hget2 r (cd_ h1)).trans h2)
     refine⟨b,arr,T,(hnumb i r h1).trans h3,h4,h5.map fun cs h5 => ?_⟩
     have hk:=uJ (L:=Ln Pr2 w') (γ:=γ') (res:=[]) (P:=fun _=>True) (fun r e t xs _ hh=>by rcases hh with⟨_,hh⟩ | hh <;> cases hh) 9 9 (aq_ _) (fun _ _=>trivial) h5 h7
     exact wc (.val hk) fun u hu=>by
      subst hu
      exact yi (hI2.wfs _ _ _ h3)
   case apart =>
    intro m m' y1 y2 b h h' hne hb
    obtain⟨i,r,rfl,h1,hh2⟩:=hrows m y1 h
    obtain⟨i',r',rfl,h1',hh2'⟩:=hrows m' y2 h'
    obtain⟨y1',h2,hbb,_⟩:=hh2.old
    obtain⟨y2',h2',hbb',_⟩:=hh2'.old
    rw[hblk i r _ h1,←hbb] at hb
    rw[hblk i' r' _ h1',←hbb']
    refine hI2.apart r r' y1' y2' b ((hget2 r (cd_ h1)).trans h2) ((hget2 r' (cd_ h1')).trans h2') (fun e=>hne ?_) hb
    subst e
    rw[hinj i i' r h1 h1']
   case beside =>
    intro j t c' b hj hγj m y1 h hb
    obtain⟨c1,h1,h2,h3,h4⟩:=hboxγ j t c' hj
    obtain⟨i,r,rfl,h5,hh6⟩:=hrows m y1 h
    have hjl:j < tab.length:=by
     rw[←(j0 hub).1]
     exact(ax_.1 hj).1
    have hne:r≠j:=by
     rintro rfl
     rcases hh6 with⟨e,t',xs,b',rfl,h6⟩ | ⟨t',c2,x1,rfl,h6,_⟩
     ·rw[h6] at h1
      cases h1
     ·omega
    obtain⟨y1',h6,hbb,_⟩:=hh6.old
    rw[hblk i r _ h5,←hbb] at hb
    exact hI2.apart r j _ _ b ((hget2 r (cd_ h5)).trans h6) h3 hne hb (by simp[bD,h2,hγj])
   case boxLoose =>
    intro j t c' b hj hγj o ho
    obtain⟨c1,h1,h2,h3,h4⟩:=hboxγ j t c' hj
    exact hI2.loose j _ b h3 (by simp[bD,h2,hγj]) o ho
   case rowLoose =>
    intro m y1 b h hb o ho
    obtain⟨i,r,rfl,h1,hh2⟩:=hrows m y1 h
    obtain⟨y1',h2,hbb,hml⟩:=hh2.old
    rw[hblk i r _ h1,←hbb] at hb
    exact hml o (hI2.loose r _ b ((hget2 r (cd_ h1)).trans h2) hb o ho)
   case where_ =>
    intro m y1 b h hb
    obtain⟨i,r,rfl,h1,hh2⟩:=hrows m y1 h
    obtain⟨y1',h2,hbb,_⟩:=hh2.old
    rw[hblk i r _ h1,←hbb] at hb
    exact hI2.where_ r _ b ((hget2 r (cd_ h1)).trans h2) hb
   case frame=>exact hI2.frame
   case size=>exact hI2.size
   case os=>exact hI2.os
   case tape=>exact hI2.tape
   case output=>exact hI2.output
   case prIn=>exact hI2.prIn
   case prOld=>exact hI2.prOld
   case lean=>exact hI2.pr0
  ·cases hfin
 exact⟨key,key⟩
theorem VC {Gp:WP} (hst:GJ Gp) (hm:P.follows .mixedOrders=true) (hE:fY P E) (hP:yl Gp P E) : ∀ k,k7 Gp P E (ff E (run E k)):=by
 intro k
 induction k using Nat.strongRecOn with
 | _ k ih=>exact Nt hE hP fun w0 X hG=>abk hm hE k (fun j hj=>(ih j hj).weaken fun w X' hf=>hst w0 X w X' hG hf) k (aq_ _)
end
end Go.Proofs.YthbkdfcmjmmpgaaGreatDoor.Abs
namespace Go.Proofs.YthbkdfcmjmmpgaaGreatDoor.Abs
open Go Go.RowKit
theorem ur {α:Type} : ∀ {l:List (Nat×α)} {k:Nat} {v:α},du l k=some v→(k,v)∈l
 | [],_,_,h=>by cases h
 | (i,x) :: l,k,v,h=>by
  unfold du at h
  split at h
  ·rename_i hb
   cases h
   rw[br_ hb]
   simp
  ·exact ar_ _ (ur h)
def Td:Value→Value→Bool
 | .int k n,.int k' m=>decide (k=k') && decide (n=m)
 | .bool a,.bool b=>a == b
 | .string s,.string t=>decide (s.data.toList=t.data.toList)
 | .slice none 0 0,.slice none 0 0=>true
 | .nilIface,.nilIface=>true
 | .nilFunc,.nilFunc=>true
 | .pointer none,.pointer none=>true
 | _,_=>false
theorem X2 {a b:Value} (h:Td a b=true):a=b:=by
 unfold Td at h
 split at h
 ·simp only[ag_,ai_] at h
  rw[h.1,h.2]
 ·rw[eq_of_beq h]
 ·have h':=dx_ h
  rename_i s t
  cases s
  cases t
  exact congrArg (fun d=>Value.string ⟨d⟩) (ec_.1 h')
 ·rfl
 ·rfl
 ·rfl
 ·rfl
 ·cases h
def GT:List Value→List Value→Bool
 | [],[]=>true
 | a :: l,b :: m=>Td a b && GT l m
 | _,_=>false
theorem Ku : ∀ {l m:List Value},GT l m=true→l=m
 | [],[],_=>rfl
 | a :: l,b :: m,h=>by
  simp only[GT,ag_] at h
  rw[X2 h.1,Ku h.2]
 | [],_ :: _,h=>by cases h
 | _ :: _,[],h=>by cases h
def abn (T:TypeId):Ty→Bool
 | .agg (.pair (.bp T') _)=>db_ T T'
 | _=>true
theorem aad {T:TypeId} {t:Ty} (h:abn T t=true) : ∀ T' s,t = .agg (.pair (.bp T') s)→T=T':=by
 rintro T' s rfl
 exact br_ h
def DR (P:Program) (T:TypeId) (t:Ty):Bool:=match P.info? T,P.underlying T with
 | some i,some d=>db_ i.size t.sz && (match i.zero with | some z=>GT z.cells.toList (zc t) | none=>false) && (XF d == pP t) && dH false t && abn T t
 | _,_=>false
theorem zT {P:Program} {T:TypeId} {t:Ty} (h:DR P T t=true):ga P T t:=by
 unfold DR at h
 split at h
 ·rename_i i d hi hd
  simp only[ag_] at h
  obtain⟨⟨⟨⟨h1,h2⟩,h3⟩,h4⟩,h5⟩:=h
  split at h2
  ·rename_i z hz
   exact⟨⟨i,hi,br_ h1,z,hz,Ku h2⟩,⟨d,hd,eq_of_beq h3⟩,h4,aad h5⟩
  ·cases h2
 ·cases h
def DS (P:Program):List Field→Ty→Nat→Bool
 | [],.unit,_=>true
 | f :: fs,.pair a b,o=>db_ f.offset o && !(f.name == "_") && Nat.blt 0 a.sz && DR P f.type a && DS P fs b (o+a.sz)
 | _,_,_=>false
theorem GU {P:Program} : ∀ {fs:List Field} {t:Ty} {o:Nat},DS P fs t o=true→Rj P fs t o
 | [],.unit,_,_=>trivial
 | f :: fs,.pair a b,o,h=>by
  simp only[DS,ag_,dr_] at h
  obtain⟨⟨⟨⟨h1,h2⟩,h3⟩,h4⟩,h5⟩:=h
  exact⟨br_ h1,fun e=>(by rw[e] at h2; simp at h2),(by simpa[Nat.blt_eq] using h3),zT h4,GU h5⟩
 | [],.int _,_,h=>by cases h
 | [],.bool,_,h=>by cases h
 | [],.err,_,h=>by cases h
 | [],.fn,_,h=>by cases h
 | [],.pt,_,h=>by cases h
 | [],.bp _,_,h=>by cases h
 | [],.str,_,h=>by cases h
 | [],.pair _ _,_,h=>by cases h
 | [],.agg _,_,h=>by cases h
 | [],.slice _ _,_,h=>by cases h
 | _ :: _,.int _,_,h=>by cases h
 | _ :: _,.bool,_,h=>by cases h
 | _ :: _,.err,_,h=>by cases h
 | _ :: _,.fn,_,h=>by cases h
 | _ :: _,.pt,_,h=>by cases h
 | _ :: _,.bp _,_,h=>by cases h
 | _ :: _,.str,_,h=>by cases h
 | _ :: _,.unit,_,h=>by cases h
 | _ :: _,.agg _,_,h=>by cases h
 | _ :: _,.slice _ _,_,h=>by cases h
def Nu (P:Program) (T:TypeId) (t:Ty):Bool:=match P.underlying T,t with
 | some (.int k),.int k'=>decide (k=k')
 | some .bool,.bool=>true
 | some .string,.str=>true
 | some (.slice e),.slice e' t=>db_ e e' && DR P e t && Nat.blt 0 t.sz && (!decide (t = .int .u8) || (match P.underlying e with | some (.int .u8)=>true | _=>false))
 | some (.struct fs),.agg t=>DS P fs.toList t 0
 | some (.interface _),.err=>true
 | some _,.fn=>true
 | some _,.pt=>true
 | some _,.bp _=>true
 | _,_=>false
theorem VD {P:Program} {T:TypeId} {t:Ty} (h:Nu P T t=true):mW P T t:=by
 unfold Nu at h
 split at h
 ·rename_i k k' hu
  rw[dx_ h] at hu
  exact hu
 ·rename_i hu
  exact hu
 ·rename_i hu
  exact hu
 ·rename_i e e' t hu
  simp only[ag_] at h
  obtain⟨⟨⟨h1,h2⟩,h3⟩,h4⟩:=h
  have:=br_ h1
  subst this
  refine⟨hu,zT h2,(by simpa[Nat.blt_eq] using h3),fun ht => ?_⟩
  simp only[ht,decide_true,bc_,Bool.false_or] at h4
  split at h4
  ·assumption
  ·cases h4
 ·rename_i fs t hu
  exact⟨fs,hu,GU h⟩
 ·rename_i ms hu
  exact⟨ms,hu⟩
 ·trivial
 ·trivial
 ·trivial
 ·cases h
def Te (P:Program) (g:TypeId→Ty→Bool):List Field→Ty→Nat→Bool
 | [],.unit,_=>true
 | f :: fs,.pair a b,o=>db_ f.offset o && !(f.name == "_") && DR P f.type a && g f.type a && Te P g fs b (o+a.sz)
 | _,_,_=>false
def oT (P:Program):Nat→TypeId→Ty→Bool
 | 0,_,_=>false
 | _+1,T,.int _=>match P.underlying T with | some (.int _)=>true | _=>false
 | _+1,T,.bool=>match P.underlying T with | some .bool=>true | _=>false
 | _+1,T,.str=>match P.underlying T with | some .string=>true | _=>false
 | d+1,T,.agg t=>match P.underlying T with
  | some (.struct fs) => !(P.stoodInHeld T) && Te P (oT P d) fs.toList t 0
  | _=>false
 | _,_,_=>false
theorem Ry {P:Program} {g:TypeId→Ty→Bool} {L:Lk} {d:Nat} {w:World} (hg : ∀ T t,g T t=true → ∀(x y:t.den) (cs ds:List Value),RK L t x cs→RK L t y ds→(Op.equalIn d T (mk t cs) (mk t ds)).run P w = .ok (bq t x y) w) :
  ∀ {fs:List Field} {t:Ty} {o:Nat},Te P g fs t o=true → ∀ {x y:t.den} {cs ds xs ys:List Value},RK L t x cs→RK L t y ds→eL cs xs o→eL ds ys o→(Op.eqFields d xs.toArray ys.toArray fs).run P w = .ok (bq t x y) w
 | [],.unit,_,_,_,_,_,_,_,_,_,_,_,_=>rfl
 | f :: fs,.pair a b,o,h,x,y,cs,ds,xs,ys,hx,hy,hsx,hsy=>by
  simp only[Te,ag_,dr_] at h
  obtain⟨⟨⟨⟨h1,h2⟩,h3⟩,h4⟩,h5⟩:=h
  have h1:=br_ h1
  have hn:f.name ≠ "_" := fun e=>by rw[e] at h2; simp at h2
  have hi:=zT h3
  obtain⟨c1,d1,rfl,hx1,hx2⟩:=hx
  obtain⟨c2,d2,rfl,hy1,hy2⟩:=hy
  have p1:=IX hi (eC hx1) ((eL.left c1 d1).trans hsx) w
  have p2:=IX hi (eC hy1) ((eL.left c2 d2).trans hsy) w
  rw[eg_] at p1 p2
  have s1:=(eL.right c1 d1).trans hsx
  have s2:=(eL.right c2 d2).trans hsy
  rw[eC hx1] at s1
  rw[eC hy1] at s2
  have ih:=Ry hg h5 hx2 hy2 s1 s2
  have h6:=hg f.type a h4 x.1 y.1 c1 c2 hx1 hy1
  simp only[Op.eqFields,ae_ hn,h1,bg_,p1,p2,au_,h6]
  show _=Result.ok (bq a x.1 y.1 && bq b x.2 y.2) w
  cases bq a x.1 y.1 with
  | false=>simp
  | true =>
   simp only[bc_,Bool.false_eq_true,if_false,Bool.true_and]
   exact ih
 | [],.int _,_,h,_,_,_,_,_,_,_,_,_,_=>by cases h
 | [],.bool,_,h,_,_,_,_,_,_,_,_,_,_=>by cases h
 | [],.err,_,h,_,_,_,_,_,_,_,_,_,_=>by cases h
 | [],.fn,_,h,_,_,_,_,_,_,_,_,_,_=>by cases h
 | [],.pt,_,h,_,_,_,_,_,_,_,_,_,_=>by cases h
 | [],.bp _,_,h,_,_,_,_,_,_,_,_,_,_=>by cases h
 | [],.str,_,h,_,_,_,_,_,_,_,_,_,_=>by cases h
 | [],.pair _ _,_,h,_,_,_,_,_,_,_,_,_,_=>by cases h
 | [],.agg _,_,h,_,_,_,_,_,_,_,_,_,_=>by cases h
 | [],.slice _ _,_,h,_,_,_,_,_,_,_,_,_,_=>by cases h
 | _ :: _,.int _,_,h,_,_,_,_,_,_,_,_,_,_=>by cases h
 | _ :: _,.bool,_,h,_,_,_,_,_,_,_,_,_,_=>by cases h
 | _ :: _,.err,_,h,_,_,_,_,_,_,_,_,_,_=>by cases h
 | _ :: _,.fn,_,h,_,_,_,_,_,_,_,_,_,_=>by cases h
 | _ :: _,.pt,_,h,_,_,_,_,_,_,_,_,_,_=>by cases h
 | _ :: _,.bp _,_,h,_,_,_,_,_,_,_,_,_,_=>by cases h
 | _ :: _,.str,_,h,_,_,_,_,_,_,_,_,_,_=>by cases h
 | _ :: _,.unit,_,h,_,_,_,_,_,_,_,_,_,_=>by cases h
 | _ :: _,.agg _,_,h,_,_,_,_,_,_,_,_,_,_=>by cases h
 | _ :: _,.slice _ _,_,h,_,_,_,_,_,_,_,_,_,_=>by cases h
theorem Rz {P:Program} {L:Lk} {w:World} : ∀(n:Nat) (T:TypeId) (t:Ty),oT P n T t=true → ∀(d:Nat) (x y:t.den) (cs ds:List Value),RK L t x cs→RK L t y ds→(Op.equalIn (d+n) T (mk t cs) (mk t ds)).run P w = .ok (bq t x y) w
 | 0,_,_,h=>by simp[oT] at h
 | n+1,T,.int k,h=>fun d x y cs ds hx hy=>by
  rw[show cs=_ from hx,show ds=_ from hy]
  unfold oT at h
  split at h
  ·rename_i k' hu
   exact run_equalIn_int w (d+n) T k k' x y hu
  ·cases h
 | n+1,T,.bool,h=>fun d x y cs ds hx hy=>by
  rw[show cs=_ from hx,show ds=_ from hy]
  unfold oT at h
  split at h
  ·rename_i hu
   exact run_equalIn_bool' w (d+n) T x y hu
  ·cases h
 | n+1,T,.str,h=>fun d x y cs ds hx hy=>by
  rw[show cs=_ from hx,show ds=_ from hy]
  unfold oT at h
  split at h
  ·rename_i hu
   refine(run_equalIn_string w (d+n) T x y hu).trans ?_
   rw[←beq_toListBytes]
   rfl
  ·cases h
 | n+1,T,.agg t,h=>fun d x y cs ds hx hy=>by
  unfold oT at h
  split at h
  ·rename_i fs hu
   simp only[ag_,dr_] at h
   have hf:P.fieldsOf T=fs:=by simp[Program.fieldsOf,hu]
   have hu':P.underlying T=some (.struct (P.fieldsOf T)):=by rw[hf]; exact hu
   refine(run_equalIn_agg w (d+n) T cs.toArray ds.toArray hu' h.1).trans ?_
   rw[hf]
   exact Ry (fun T t hT x y cs ds hx hy=>Rz n T t hT d x y cs ds hx hy) h.2 (t:=t) hx hy (eL.refl cs) (eL.refl ds)
  ·cases h
 | n+1,T,.unit,h=>by simp[oT] at h
 | n+1,T,.err,h=>by simp[oT] at h
 | n+1,T,.fn,h=>by simp[oT] at h
 | n+1,T,.pt,h=>by simp[oT] at h
 | n+1,T,.bp _,h=>by simp[oT] at h
 | n+1,T,.pair _ _,h=>by simp[oT] at h
 | n+1,T,.slice _ _,h=>by simp[oT] at h
def X3 (P:Program) (E:cP):Bool:=E.eqs.all fun p=>pP p.2 && !(P.eqGuardType P.depth p.1) && oT P 8 p.1 p.2
theorem aae {P:Program} {E:cP} (h:X3 P E=true) : ∀ T t,du E.eqs T=some t→abc P T t:=by
 intro T t hT
 unfold X3 at h
 rw[cl_] at h
 have:=h (T,t) (ur hT)
 simp only[ag_,dr_] at this
 refine⟨?_,this.1.2,fun L x y cs ds w hx hy=>Rz 8 T t this.2 9992 x y cs ds hx hy⟩
 cases t <;> first | exact⟨_,rfl⟩ | cases this.1.1
def VE (P:Program) (E:cP):Bool:=X3 P E && (E.ty.all fun p=>Nu P p.1 p.2 && DR P p.1 p.2) && E.by_.all fun p=>Nat.blt 0 p.2 && (match P.info? p.1 with | some i=>db_ i.bytes p.2 | none=>true)
theorem X4 {P:Program} {E:cP} (h:VE P E=true) (hf : ∀ p∈E.fns,P.funcs[p.2.g]? = some p.2.fn∧p.2.fn.body.isSome=true∧(p.2.fn.name == "runtime.NumGoroutine")=false):fY P E:=by
 unfold VE at h
 simp only[ag_,cl_] at h
 obtain⟨⟨hq,h1⟩,h2⟩:=h
 have h:=And.intro h1 h2
 refine⟨fun T t hT => ?_,fun e nb i hb hi => ?_,fun g I hg=>hf (g,I) (ur hg),aae hq⟩
 ·have:=h.1 (T,t) (ur hT)
  exact⟨VD this.1,zT this.2⟩
 ·have:=h.2 (e,nb) (ur hb)
  simp only[hi] at this
  exact⟨br_ this.2,by simpa[Nat.blt_eq] using this.1⟩
end Go.Proofs.YthbkdfcmjmmpgaaGreatDoor.Abs
namespace Go.Proofs.YthbkdfcmjmmpgaaGreatDoor.Abs
open Go Go.RowKit
section
variable {E:cP} {call call':(I:ay)→List SV→aQ→Option (I.sh.den×I.bx.den)}
theorem uQ (hc : ∀ I args tab z,call I args tab=some z→call' I args tab=some z) {g key:Nat} {args:List SV} {res:aQ} {r0:Nat} {p:SV×Up} (h:gP E call g key args res r0 cO=some p):gP E call' g key args res r0 cO=some p:=by
 unfold gP at h ⊢
 cases hI:du E.fns key with
 | none=>rw[hI] at h; cases h
 | some I =>
  simp only[hI] at h ⊢
  cases hg:db_ I.g g with
  | false=>rw[hg] at h; cases h
  | true =>
   simp only[hg] at h ⊢
   cases hv:uF res (I.fn.params.toList.map fun T=>du E.ty T) I.own args with
   | none=>rw[hv] at h; cases h
   | some q =>
    obtain⟨args',fr⟩:=q
    simp only[hv] at h ⊢
    split at h
    ·rename_i h1 h2 h3
     rw[al_] at h
     obtain⟨z,hz,h⟩:=h
     rw[al_]
     exact⟨z,hc _ _ _ _ hz,h⟩
    ·cases h
theorem Qk (hc : ∀ I args tab z,call I args tab=some z→call' I args tab=some z) {g:Nat} {args:List SV} {res:aQ} {r0:Nat} {p:SV×Up} (h:jJ E call g args res r0 cO=some p):jJ E call' g args res r0 cO=some p:=by
 unfold jJ at h ⊢
 split at h
 ·exact uQ hc h
 ·rename_i s hs
  rw[al_] at h ⊢
  obtain⟨b,hb,h⟩:=h
  refine⟨b,hb,?_⟩
  split at h
  ·rename_i hb'
   rw[ae_ hb']
   exact uQ hc h
  ·rename_i hb'
   rw[ac_ hb']
   exact uQ hc h
theorem VF (hc : ∀ I args tab z,call I args tab=some z→call' I args tab=some z) {o:Oper} {vs:List SV} {res:aQ} {r0:Nat} {p:SV×Up} (h:cQ E call o vs res r0 cO=some p):cQ E call' o vs res r0 cO=some p:=by
 obtain⟨dst,op,ty,pos,after,guard⟩:=o
 cases op
 case call c =>
  obtain⟨callee,args,argTypes⟩:=c
  cases callee with
  | value f =>
   rcases vs with _ | ⟨v1,vs⟩
   ·cases h
   ·cases v1 with
    | fn g caps =>
     rcases vs with _ | ⟨v2,_ | ⟨v3,vs⟩⟩ <;> exact Qk hc h
    | _=>rcases vs with _ | ⟨v2,_ | ⟨v3,vs⟩⟩ <;> cases h
  | _=>rcases vs with _ | ⟨v1,_ | ⟨v2,_ | ⟨v3,vs⟩⟩⟩ <;> exact h
 case makeFunc fn first captured=>cases fn <;> rcases vs with _ | ⟨v1,_ | ⟨v2,_ | ⟨v3,vs⟩⟩⟩ <;> exact h
 all_goals rcases vs with _ | ⟨v1,_ | ⟨v2,_ | ⟨v3,_ | ⟨v4,vs⟩⟩⟩⟩ <;> exact h
theorem Tf (hc : ∀ I args tab z,call I args tab=some z→call' I args tab=some z) {R R':Type} {K:SV→Up→Option R} {K':SV→Up→Option R'} {z:R} {z':R'} (hK : ∀ v u,K v u=some z→K' v u=some z') {o:Oper} {vs:List SV} {res:aQ} {r0:Nat} (h:cQ E call o vs res r0 K=some z):cQ E call' o vs res r0 K'=some z':=by
 obtain⟨v,u,h1,h2⟩:=B0 h
 rw[M2,VF hc h1]
 exact hK v u h2
theorem xo (hc : ∀ I args tab z,call I args tab=some z→call' I args tab=some z) {R:Type} {K K':St→Option R} {z:R} (hK : ∀ σ,K σ=some z→K' σ=some z) {all:Array Oper} {draw:Bool} {base:Nat} :
  ∀ {l:List (Nat×Oper)} {g:List BZ} {σ:St},cY E call all draw base l g σ K=some z→cY E call' all draw base l g σ K'=some z
 | [],g,σ,h=>by
  unfold cY at h ⊢
  cases draw with
  | false=>exact hK σ h
  | true =>
   simp only at h ⊢
   split at h
   ·rename_i h1 h2
    exact hK σ h
   ·cases h
 | (i,o) :: l,g,σ,h=>by
  have act : ∀(σ:St) (b:Bool),(match b with
   | true=>cQ E call o ((dY o.op).map (ev σ.slots)) (g7 σ.res (mT o σ.res ((dY o.op).map (ev σ.slots)))) (base+64*i) fun v u=>match uH (base+64*i) (mT o σ.res ((dY o.op).map (ev σ.slots))) u with
    | true=>cY E call all draw base l ({i,see:=mT o σ.res ((dY o.op).map (ev σ.slots)),turn:=u.map (·.1)} :: g) (oP σ o.dst v u) K
    | false=>none
   | false=>cY E call all draw base l ({i,see:=[],turn:=[]} :: g) (oP σ o.dst (.tup []) []) K)=some z →
   (match b with
   | true=>cQ E call' o ((dY o.op).map (ev σ.slots)) (g7 σ.res (mT o σ.res ((dY o.op).map (ev σ.slots)))) (base+64*i) fun v u=>match uH (base+64*i) (mT o σ.res ((dY o.op).map (ev σ.slots))) u with
    | true=>cY E call' all draw base l ({i,see:=mT o σ.res ((dY o.op).map (ev σ.slots)),turn:=u.map (·.1)} :: g) (oP σ o.dst v u) K'
    | false=>none
   | false=>cY E call' all draw base l ({i,see:=[],turn:=[]} :: g) (oP σ o.dst (.tup []) []) K')=some z:=by
   intro σ b h
   cases b with
   | true =>
    refine Tf hc (fun v u hh => ?_) h
    split at hh
    ·exact xo hc hK hh
    ·cases hh
   | false=>exact xo hc hK h
  unfold cY at h ⊢
  dsimp only at h ⊢
  split at h
  ·exact act σ true h
  ·rename_i j want hg
   split at h
   ·rename_i d hd
    split at h
    ·split at h
     ·rename_i hx
      rw[ae_ hx]
      exact act {σ with slots:=dD σ.slots d (.val .bool true)} (true == want) h
     ·rename_i hx
      rw[ac_ hx]
      exact act {σ with slots:=dD σ.slots d (.val .bool false)} (false == want) h
    ·exact act σ false h
    ·cases h
   ·cases h
theorem FA (E:cP) : ∀ {k m:Nat},k≤m → ∀ {I:ay} {R:Type} {K K':St→Option R} {c:Code} {S:List Fr} {σ:St} {z:R},(∀ σ,K σ=some z→K' σ=some z)→run E k I K c S σ=some z→run E m I K' c S σ=some z
 | 0,_,_,_,_,_,_,_,_,_,_,_,h=>by cases h
 | k+1,0,hle,_,_,_,_,_,_,_,_,_,_=>bh_ hle (by omega)
 | k+1,m+1,hle,I,R,K,K',c,S,σ,z,hK,h=>by
  have ih : ∀ {I:ay} {R:Type} {K K':St→Option R} {c:Code} {S:List Fr} {σ:St} {z:R},(∀ σ,K σ=some z→K' σ=some z)→run E k I K c S σ=some z→run E m I K' c S σ=some z:=fun hK h=>FA E (Nat.le_of_succ_le_succ hle) hK h
  have ihp : ∀ {S:List Fr} {σ:St},uI (run E k) I K S σ=some z→uI (run E m) I K' S σ=some z:=by
   intro S σ h
   cases S with
   | nil=>exact hK σ h
   | cons f S=>cases f <;> exact ih hK h
  have ihc : ∀ I args tab z,ff E (run E k) I args tab=some z→ff E (run E m) I args tab=some z:=fun I args tab z h=>by
   unfold ff at h ⊢
   split at h
   ·exact h
   ·exact ih (fun σ h=>h) h
  rw[oS] at h ⊢
  unfold tk at h ⊢
  split at h
  ·exact ihp h
  ·dsimp only at h ⊢
   exact xo ihc (fun σ' h'=>ihp h') h
  ·exact ih hK h
  ·split at h
   ·split at h
    ·rename_i hx
     rw[ae_ hx]
     exact ih hK h
    ·rename_i hx
     rw[ac_ hx]
     exact ih hK h
   ·cases h
  ·exact ih hK h
  ·exact ih hK h
  ·split at h
   ·exact ih hK h
   ·cases h
  ·exact hK σ h
  ·cases h
end
theorem VG {E:cP} {k m:Nat} (hm:k≤m) {I:ay} {args:List SV} {tab:aQ} {z:I.sh.den×I.bx.den} (h:call E k I args tab=some z):call E m I args tab=some z:=by
 unfold call ff at h ⊢
 split at h
 ·exact h
 ·exact FA E hm (fun _ h=>h) h
end Go.Proofs.YthbkdfcmjmmpgaaGreatDoor.Abs
namespace Go.Proofs.YthbkdfcmjmmpgaaGreatDoor.Abs
open Go Go.RowKit
def Ev {R:Type} (f:Nat→Option R) (z:R):Prop := ∃ k0,∀ k,k0≤k→f k=some z
section
variable {R R':Type} {f:Nat→Option R} {z:R}
theorem Ev.now:Ev (fun _=>some z) z:=⟨0,fun _ _=>rfl⟩
theorem Ev.later (h:Ev f z) (c:Nat):Ev (fun k=>f (k+c)) z:=by
 obtain⟨k0,h⟩:=h
 exact⟨k0,fun k hk=>h _ (by omega)⟩
theorem Ev.eqn {g:Nat→Option R} (c:Nat) (he : ∀ k,f (k+c)=g k) (h:Ev g z):Ev f z:=by
 obtain⟨k0,h⟩:=h
 refine⟨k0+c,fun k hk => ?_⟩
 have:=he (k - c)
 rw[show k - c+c=k by omega] at this
 rw[this]
 exact h _ (by omega)
theorem Ev.bind {g:R→Nat→Option R'} {y:R'} (h:Ev f z) (k:Ev (g z) y):Ev (fun n=>(f n).bind fun x=>g x n) y:=by
 obtain⟨a,h⟩:=h
 obtain⟨b,k⟩:=k
 refine⟨a+b,fun n hn => ?_⟩
 show(f n).bind _=_
 rw[h n (by omega)]
 exact k n (by omega)
theorem Ev.ite {c:Prop} [Decidable c] {g:Nat→Option R} (h1:c→Ev f z) (h2 : ¬c→Ev g z):Ev (fun k=>if c then f k else g k) z:=by
 by_cases h:c
 ·obtain⟨k0,hk⟩:=h1 h
  exact⟨k0,fun k hh=>by simp only[ae_ h]; exact hk k hh⟩
 ·obtain⟨k0,hk⟩:=h2 h
  exact⟨k0,fun k hh=>by simp only[ac_ h]; exact hk k hh⟩
theorem Ev.pos {c:Prop} [Decidable c] {g:Nat→Option R} (hc:c) (h1:Ev f z):Ev (fun k=>if c then f k else g k) z:=Ev.ite (fun _=>h1) (fun h=>bh_ hc h)
theorem Ev.neg {c:Prop} [Decidable c] {g:Nat→Option R} (hc : ¬c) (h1:Ev g z):Ev (fun k=>if c then f k else g k) z:=Ev.ite (fun h=>bh_ h hc) (fun _=>h1)
end
def uR (E:cP) (I:ay) (args:List SV) (tab:aQ) (z:I.sh.den×I.bx.den):Prop:=Ev (fun k=>call E k I args tab) z
theorem uR.at_ {E:cP} {I:ay} {args:List SV} {tab:aQ} {z:I.sh.den×I.bx.den} (h:uR E I args tab z) : ∃ k,call E k I args tab=some z:=by
 obtain⟨k,h⟩:=h
 exact⟨k,h k (aq_ _)⟩
theorem uR.of {E:cP} {I:ay} {args:List SV} {tab:aQ} {z:I.sh.den×I.bx.den} {k:Nat} (h:call E k I args tab=some z):uR E I args tab z :=
 ⟨k,fun m hm=>VG hm h⟩
theorem uR.calls {P:Program} {E:cP} {Gp:WP} (hst:GJ Gp) (hm:P.follows .mixedOrders=true) (hE:fY P E) (hP:yl Gp P E) {I:ay} {args:List SV} {tab:aQ} {z:I.sh.den×I.bx.den} (h:uR E I args tab z) {key:Nat} (hg:du E.fns key=some I) (hcanon : ∀(k:Nat) (p:Nat×bj),tab[k]? = some p→p.1=k)
  {w:World} {γ:Nat→Option G} {Pr:Nat→Nat→Prop} {us:List Value} (hGp:Gp w (nE tab γ)) (hI:bH w (nE tab γ) Pr args (aL tab) γ Pr {tmps:=us.toArray,defers:=[]} w) (hlim : ∀ r,tab.length≤r→γ r=none) {N:Nat} (hN:tab.length≤N) {vs bs:List SV} {u u':Up} {n n':Nat} {ub:List (Option bj)}
  (h1:cd I.sh z.1 N=(vs,u,n)) (h2:cd I.bx z.2 n=(bs,u',n')) (h3:cN I.rb tab bs (rX I.bx)=some ub) :
  Calls P I.g us.toArray w fun e w' => ∃ vals γr Pr',e = .returned (B8 vals)∧xm w (nE tab γ) γ Pr N n' vs ub (u++u') vals γr Pr' w' ∧ ∀ p∈dv I.rb tab bs,γr p.1=γ p.2:=by
 obtain⟨k,hk⟩:=h.at_
 exact VC hst hm hE hP k I args tab z key hg hk hcanon w γ Pr us hGp hI hlim N hN vs u n bs u' n' ub h1 h2 h3
end Go.Proofs.YthbkdfcmjmmpgaaGreatDoor.Abs
namespace Go.Proofs.YthbkdfcmjmmpgaaGreatDoor.Abs
open Go
def kids:Code→List Code
 | .seq a b=>[a,b]
 | .cond _ a b=>[a,b]
 | .block _ a=>[a]
 | .loop a=>[a]
 | _=>[]
def at_:Code→List Nat→Code
 | c,[]=>c
 | c,i :: l=>match kids c,i with
  | a :: _,0=>at_ a l
  | [_,b],1=>at_ b l
  | _,_ => .skip
instance (t:Ty):Inhabited t.den:=⟨t.dflt⟩
def dc (e:TypeId) (t:Ty) (nb:Nat):List SV→aQ→Option ((Sh.pair (.row e t false) .unit).den×Sh.unit.den)
 | [.val s xs],[]=>(jx? (t:=s) (.slice e t) xs).bind fun xs=>if(xs:List t.den).length*nb≤140737488355328 then some ((xs,()),()) else none
 | _,_=>none
noncomputable def fi {α:Type} [Inhabited α] (lt:α→α→Bool) (xs:List α):List α:=(Sort.pdq lt xs.toArray 0 xs.toArray.size (fk_ xs.toArray.size) true true).toList
noncomputable def mo (e:TypeId) (t:Ty) (g:Nat) (lt:t.den→t.den→Bool):List SV→aQ→Option (Sh.unit.den×(Sh.pair (.row e t false) .unit).den)
 | [.row 0,.fn g' []],[(0,.row e' s xs false)]=>if g'=g then(jx? (t := .slice e' s) (.slice e t) xs).bind fun xs=>if(xs:List t.den).length < 4611686018427387904 then some ((),fi lt (xs:List t.den),()) else none else none
 | _,_=>none
def di (n:Int):aa_:=⟨(Lib.itoa n).toArray⟩
def DT:List SV→aQ→Option ((Sh.pair (.val .str) .unit).den×Sh.unit.den)
 | [.val (.int .i64) n,.val (.int .i64) b],[]=>if(b:Int)=10 ∧ -9223372036854775808≤(n:Int)∧(n:Int)≤9223372036854775807 then some ((di n,()),()) else none
 | _,_=>none
def uS (c:aa_):Bool:=decide (c.size≤1000) && c.data.toList.all fun b=>decide (b.toNat < 128)
def p7:List SV→aQ→Option ((Sh.pair (.val .str) .unit).den×Sh.unit.den)
 | [.val .str s,.val .str c],[]=>if uS c=true then some ((⟨(Lib.trimLeftS (s:aa_).data.toList (c:aa_).data.toList).toArray⟩,()),()) else none
 | _,_=>none
def zU:List SV→aQ→Option ((Sh.pair (.val .str) .unit).den×Sh.unit.den)
 | [.val .str s,.val .str c],[]=>if uS c=true∧(s:aa_).size≤9223372036854775807 then some ((⟨(Lib.trimS (s:aa_).data.toList (c:aa_).data.toList).toArray⟩,()),()) else none
 | _,_=>none
def DU:List SV→aQ→Option ((Sh.pair (.val .str) (.pair (.val .str) (.pair (.val .bool) .unit))).den×Sh.unit.den)
 | [.val .str s,.val .str c],[]=>if(s:aa_).size < 4294967281 then some ((⟨(Lib.cut (s:aa_).data.toList (c:aa_).data.toList).1.toArray⟩,⟨(Lib.cut (s:aa_).data.toList (c:aa_).data.toList).2.1.toArray⟩,(Lib.cut (s:aa_).data.toList (c:aa_).data.toList).2.2,()),()) else none
 | _,_=>none
def sd:List SV→aQ→Option ((Sh.pair (.val .str) .unit).den×Sh.unit.den)
 | [.val .str s,.val .str a,.val .str b],[]=>if(s:aa_).size < 4294967281∧1≤(a:aa_).size∧(s:aa_).size+Lib.countB s a*(b:aa_).size≤140737488355328 then some ((⟨(Lib.replaceAll (s:aa_).data.toList (a:aa_).data.toList (b:aa_).data.toList).toArray⟩,()),()) else none
 | _,_=>none
def zV (e:TypeId):List SV→aQ→Option ((Sh.pair (.val .str) .unit).den×Sh.unit.den)
 | [.val t xs,.val .str c],[]=>(jx? (t:=t) (.slice e .str) xs).bind fun xs=>if(xs:List aa_).length≤140737488355328∧(Lib.join ((xs:List aa_).map (·.data.toList)) (c:aa_).data.toList).length≤140737488355328 then some ((⟨(Lib.join ((xs:List aa_).map (·.data.toList)) (c:aa_).data.toList).toArray⟩,()),()) else none
 | _,_=>none
def cD (l:List UInt8):Int×Bool:=match Lib.parseIntB 64 l with
 | .ok v=>(v,true)
 | .range=>(Lib.intSat 64 l,false)
 | _=>(0,false)
def p8:List SV→aQ→Option ((Sh.pair (.val (.int .i64)) (.pair (.val .err) .unit)).den×Sh.unit.den)
 | [.val .str s,.val (.int .i64) b,.val (.int .i64) n],[]=>if(s:aa_).size≤281474976710656∧(b:Int)=10∧(n:Int)=64 then some (((cD (s:aa_).data.toList).1,(cD (s:aa_).data.toList).2,()),()) else none
 | _,_=>none
open Go Go.RowKit
theorem Ev.uniq {R:Type} {f:Nat→Option R} {z z':R} (h:Ev f z) (h':Ev f z'):z=z':=by
 obtain⟨a,h⟩:=h
 obtain⟨b,h'⟩:=h'
 have h1:=h (a+b) (by omega)
 rw[h' (a+b) (by omega)] at h1
 exact(ch_ h1).symm
open Classical in
noncomputable def lim {R:Type} (f:Nat→Option R):Option R:=if h : ∃ z,Ev f z then some h.choose else none
theorem X5 {R:Type} {f:Nat→Option R} {z:R}:lim f=some z↔Ev f z:=by
 unfold lim
 constructor
 ·intro h
  split at h
  ·rename_i hz
   have:=hz.choose_spec
   rw[ch_ h] at this
   exact this
  ·cases h
 ·intro h
  have hz : ∃ z,Ev f z:=⟨z,h⟩
  rw[dif_pos hz,hz.choose_spec.uniq h]
noncomputable def lT (E:cP):nN:=fun I _ K c S σ=>lim fun k=>run E k I K c S σ
theorem wg {E:cP} {I:ay} {R:Type} {K:St→Option R} {c:Code} {S:List Fr} {σ:St} {z:R}:lT E I K c S σ=some z ↔ ∃ k,∀ m,k≤m→run E m I K c S σ=some z:=X5
theorem RA {E:cP} {I:ay} {R:Type} {K:St→Option R} {c:Code} {S:List Fr} {σ:St} {z:R} {k:Nat} (h:run E k I K c S σ=some z):lT E I K c S σ=some z :=
 wg.2 ⟨k,fun m hm=>FA E hm (fun _ h=>h) h⟩
section
variable {E:cP} {call:(I:ay)→List SV→aQ→Option (I.sh.den×I.bx.den)} {call':Nat→(I:ay)→List SV→aQ→Option (I.sh.den×I.bx.den)}
theorem uT (hc : ∀ I args tab z,call I args tab=some z → ∃ k,∀ m,k≤m→call' m I args tab=some z) {g key:Nat} {args:List SV} {res:aQ} {r0:Nat} {p:SV×Up} (h:gP E call g key args res r0 cO=some p) : ∃ k,∀ m,k≤m→gP E (call' m) g key args res r0 cO=some p:=by
 unfold gP at h ⊢
 cases hI:du E.fns key with
 | none=>rw[hI] at h; cases h
 | some I =>
  simp only[hI] at h ⊢
  cases hg:db_ I.g g with
  | false=>rw[hg] at h; cases h
  | true =>
   simp only[hg] at h ⊢
   cases hv:uF res (I.fn.params.toList.map fun T=>du E.ty T) I.own args with
   | none=>rw[hv] at h; cases h
   | some q =>
    obtain⟨args',fr⟩:=q
    simp only[hv] at h ⊢
    split at h
    ·rename_i h1 h2 h3
     rw[al_] at h
     obtain⟨z,hz,h⟩:=h
     obtain⟨k,hk⟩:=hc _ _ _ _ hz
     refine⟨k,fun m hm => ?_⟩
     rw[al_]
     exact⟨z,hk m hm,h⟩
    ·cases h
theorem Ql (hc : ∀ I args tab z,call I args tab=some z → ∃ k,∀ m,k≤m→call' m I args tab=some z) {g:Nat} {args:List SV} {res:aQ} {r0:Nat} {p:SV×Up} (h:jJ E call g args res r0 cO=some p) : ∃ k,∀ m,k≤m→jJ E (call' m) g args res r0 cO=some p:=by
 unfold jJ at h ⊢
 split at h
 ·exact uT hc h
 ·rename_i s hs
  rw[al_] at h
  obtain⟨b,hb,h⟩:=h
  split at h
  ·rename_i hb'
   obtain⟨k,hk⟩:=uT hc h
   refine⟨k,fun m hm => ?_⟩
   rw[al_]
   refine⟨b,hb,?_⟩
   rw[ae_ hb']
   exact hk m hm
  ·rename_i hb'
   obtain⟨k,hk⟩:=uT hc h
   refine⟨k,fun m hm => ?_⟩
   rw[al_]
   refine⟨b,hb,?_⟩
   rw[ac_ hb']
   exact hk m hm
theorem VH (hc : ∀ I args tab z,call I args tab=some z → ∃ k,∀ m,k≤m→call' m I args tab=some z) {o:Oper} {vs:List SV} {res:aQ} {r0:Nat} {p:SV×Up} (h:cQ E call o vs res r0 cO=some p) : ∃ k,∀ m,k≤m→cQ E (call' m) o vs res r0 cO=some p:=by
 obtain⟨dst,op,ty,pos,after,guard⟩:=o
 cases op
 case call c =>
  obtain⟨callee,args,argTypes⟩:=c
  cases callee with
  | value f =>
   rcases vs with _ | ⟨v1,vs⟩
   ·cases h
   ·cases v1 with
    | fn g caps =>
     rcases vs with _ | ⟨v2,_ | ⟨v3,vs⟩⟩ <;> exact Ql hc h
    | _=>rcases vs with _ | ⟨v2,_ | ⟨v3,vs⟩⟩ <;> cases h
  | _=>rcases vs with _ | ⟨v1,_ | ⟨v2,_ | ⟨v3,vs⟩⟩⟩ <;> exact⟨0,fun _ _=>h⟩
 case makeFunc fn first captured=>cases fn <;> rcases vs with _ | ⟨v1,_ | ⟨v2,_ | ⟨v3,vs⟩⟩⟩ <;> exact⟨0,fun _ _=>h⟩
 all_goals rcases vs with _ | ⟨v1,_ | ⟨v2,_ | ⟨v3,_ | ⟨v4,vs⟩⟩⟩⟩ <;> exact⟨0,fun _ _=>h⟩
def Tg (E:cP) (call:(I:ay)→List SV→aQ→Option (I.sh.den×I.bx.den)) {R:Type} (all:Array Oper) (draw:Bool) (base i:Nat) (o:Oper) (l:List (Nat×Oper)) (g:List BZ) (K:St→Option R) (σ:St) (b:Bool):Option R:=match b with
 | true=>cQ E call o ((dY o.op).map (ev σ.slots)) (g7 σ.res (mT o σ.res ((dY o.op).map (ev σ.slots)))) (base+64*i) fun v u=>match uH (base+64*i) (mT o σ.res ((dY o.op).map (ev σ.slots))) u with
  | true=>cY E call all draw base l ({i,see:=mT o σ.res ((dY o.op).map (ev σ.slots)),turn:=u.map (·.1)} :: g) (oP σ o.dst v u) K
  | false=>none
 | false=>cY E call all draw base l ({i,see:=[],turn:=[]} :: g) (oP σ o.dst (.tup []) []) K
theorem xp (hc : ∀ I args tab z,call I args tab=some z → ∃ k,∀ m,k≤m→call' m I args tab=some z) {R:Type} {K:St→Option R} {K':Nat→St→Option R} {z:R} (hK : ∀ σ,K σ=some z → ∃ k,∀ m,k≤m→K' m σ=some z) {all:Array Oper} {draw:Bool} {base:Nat} :
  ∀ {l:List (Nat×Oper)} {g:List BZ} {σ:St},cY E call all draw base l g σ K=some z → ∃ k,∀ m,k≤m→cY E (call' m) all draw base l g σ (K' m)=some z
 | [],g,σ,h=>by
  unfold cY at h ⊢
  cases draw with
  | false=>exact hK σ h
  | true =>
   simp only at h ⊢
   split at h
   ·rename_i h1 h2
    exact hK σ h
   ·cases h
 | (i,o) :: l,g,σ,h=>by
  have act : ∀(σ:St) (b:Bool),Tg E call all draw base i o l g K σ b=some z → ∃ k,∀ m,k≤m→Tg E (call' m) all draw base i o l g (K' m) σ b=some z:=by
   unfold Tg
   intro σ b h
   cases b with
   | true =>
    obtain⟨v,u,h1,h2⟩:=B0 h
    obtain⟨k1,hk1⟩:=VH hc h1
    split at h2
    ·rename_i hs
     obtain⟨k2,hk2⟩:=xp hc hK h2
     refine⟨k1+k2,fun m hm => ?_⟩
     rw[M2,hk1 m (by omega)]
     simp only[ab_,hs]
     exact hk2 m (by omega)
    ·cases h2
   | false=>exact xp hc hK h
  unfold cY at h
  simp only[cY]
  dsimp only at h ⊢
  split at h
  ·exact act σ true h
  ·rename_i j want hg
   split at h
   ·rename_i d hd
    split at h
    ·split at h
     ·rename_i hx
      simp only[ae_ hx]
      exact act {σ with slots:=dD σ.slots d (.val .bool true)} (true == want) h
     ·rename_i hx
      simp only[ac_ hx]
      exact act {σ with slots:=dD σ.slots d (.val .bool false)} (false == want) h
    ·exact act σ false h
    ·cases h
   ·cases h
theorem Kv {rec:nN} {rec':Nat→nN} {I:ay} {R:Type} {K:St→Option R} (hr : ∀(I:ay) (R:Type) (K:St→Option R) c S σ z,rec I K c S σ=some z → ∃ k,∀ m,k≤m→rec' m I K c S σ=some z) {c:Code} {S:List Fr} {σ:St} {z:R} (h:tk E rec I K c S σ=some z) : ∃ k,∀ m,k≤m→tk E (rec' m) I K c S σ=some z:=by
 have ihp : ∀ {S:List Fr} {σ:St},uI rec I K S σ=some z → ∃ k,∀ m,k≤m→uI (rec' m) I K S σ=some z:=by
  intro S σ h
  cases S with
  | nil=>exact⟨0,fun _ _=>h⟩
  | cons f S=>cases f <;> exact hr _ _ _ _ _ _ _ h
 have ihc : ∀ I args tab z,ff E rec I args tab=some z → ∃ k,∀ m,k≤m→ff E (rec' m) I args tab=some z:=fun I args tab z h=>by
  unfold ff at h ⊢
  split at h
  ·exact⟨0,fun _ _=>h⟩
  ·exact hr _ _ _ _ _ _ _ h
 unfold tk at h ⊢
 split at h
 ·exact ihp h
 ·dsimp only at h ⊢
  exact xp ihc (K':=fun m σ'=>uI (rec' m) I K S {σ' with nx:=_}) (fun σ' h'=>ihp h') h
 ·exact hr _ _ _ _ _ _ _ h
 ·split at h
  ·split at h
   ·rename_i hx
    simp only[ae_ hx]
    exact hr _ _ _ _ _ _ _ h
   ·rename_i hx
    simp only[ac_ hx]
    exact hr _ _ _ _ _ _ _ h
  ·cases h
 ·exact hr _ _ _ _ _ _ _ h
 ·exact hr _ _ _ _ _ _ _ h
 ·split at h
  ·exact hr _ _ _ _ _ _ _ h
  ·cases h
 ·exact⟨0,fun _ _=>h⟩
 ·cases h
end
theorem X6 {E:cP} {I:ay} {R:Type} {K:St→Option R} {c:Code} {S:List Fr} {σ:St}:lT E I K c S σ=tk E (lT E) I K c S σ:=by
 refine Option.ext fun z=>⟨fun h => ?_,fun h => ?_⟩
 ·obtain⟨k,hk⟩:=wg.1 h
  have h1:=hk (k+1) (by omega)
  rw[oS] at h1
  obtain⟨_,h2⟩:=Kv (rec':=fun _=>lT E) (fun _ _ _ _ _ _ _ h=>⟨0,fun _ _=>RA h⟩) h1
  exact h2 _ (aq_ _)
 ·obtain⟨k,hk⟩:=Kv (rec':=fun m=>run E m) (fun _ _ _ _ _ _ _ h=>wg.1 h) h
  exact RA (k:=k+1) (by rw[oS]; exact hk k (aq_ _))
def VI (E:cP) (rc rec:nN) (I:ay) {R:Type} (K:St→Option R) (c:Code) (S:List Fr) (σ:St):Option R:=match c with
 | .region id ops draw=>cY {E with sub:=I.sub} (ff E rc) ops draw σ.nx ((bs_ ops.size).zip ops.toList) [] σ fun σ'=>uI rec I K S {σ' with nx:=σ.nx+64*ops.size}
 | _=>none
theorem ZH : ∃ f:(E:cP)→(rc:nN)→(I:ay)→(R:Type)→(St→Option R)→Code→List Fr→St→Option R,∀ E rc I R K c S σ,f E rc I R K c S σ=VI E rc rc I K c S σ :=
 ⟨fun E rc I R K c S σ=>VI E rc rc I K c S σ,fun _ _ _ _ _ _ _ _=>rfl⟩
noncomputable def pt (E:cP) (rc:nN) (I:ay) {R:Type} (K:St→Option R) (c:Code) (S:List Fr) (σ:St):Option R:=Classical.choose ZH E rc I R K c S σ
theorem ZI {E:cP} {rc:nN} {I:ay} {R:Type} {K:St→Option R} {c:Code} {S:List Fr} {σ:St}:pt E rc I K c S σ=VI E rc rc I K c S σ:=Classical.choose_spec ZH E rc I R K c S σ
noncomputable def MD (E:cP) (rc rec:nN):nN:=fun I _ K c S σ=>match c with
 | .skip=>uI rec I K S σ
 | .region id ops draw=>match du I.live id with
  | some l=>pt E rc I K (.region id ops draw) S (norm l σ)
  | none=>VI E rc rec I K (.region id ops draw) S σ
 | .seq a b=>rec I K a (.seq b :: S) σ
 | .cond c a b=>match ev σ.slots c with
  | .val .bool x=>if x=true then rec I K a S σ else rec I K b S σ
  | _=>none
 | .block id b=>rec I K b (.block id :: S) σ
 | .loop b=>rec I K b (.loop b :: S) σ
 | .exit id=>match zK I id S with | some S'=>rec I K .skip S' σ | none=>none
 | .ret=>K σ
 | _=>none
noncomputable def ME (E:cP) (rc:nN) (n:Nat):nN:=Nat.rec rc (fun _ rec=>MD E rc rec) n
theorem X7 {E:cP}:MD E (lT E) (lT E)=lT E:=by
 funext I R K c S σ
 rw[X6]
 unfold MD tk
 cases c <;> try rfl
 rename_i id ops draw
 dsimp only
 cases du I.live id with
 | none=>rfl
 | some l=>exact ZI
theorem FB {E:cP} : ∀ n,ME E (lT E) n=lT E
 | 0=>rfl
 | n+1=>by
  show MD E (lT E) (ME E (lT E) n)=_
  rw[FB n,X7]
noncomputable def ai (E:cP) (I:ay) (args:List SV) (tab:aQ):Option (I.sh.den×I.bx.den):=ff E (lT E) I args tab
theorem aB {E:cP} {I:ay} {args:List SV} {tab:aQ} {z:Option (I.sh.den×I.bx.den)} (h:ff E (ME E (lT E) 4000) I args tab=z:=by kernel_rfl):ai E I args tab=z:=by
 rw[←h,FB]
 rfl
theorem bz {E:cP} {I:ay} {R:Type} {K:St→Option R} {c:Code} {S:List Fr} {σ:St} {z:Option R} (h:VI E (lT E) (ME E (lT E) 4000) I K c S σ=z:=by kernel_rfl):pt E (lT E) I K c S σ=z:=by
 rw[←h,FB]
 exact ZI
theorem uR.ofL {E:cP} {I:ay} {args:List SV} {tab:aQ} {z:I.sh.den×I.bx.den} (h:ai E I args tab=some z):uR E I args tab z:=by
 unfold ai ff at h
 unfold uR call ff
 split at h
 ·exact⟨0,fun _ _=>h⟩
 ·exact wg.1 h
end Go.Proofs.YthbkdfcmjmmpgaaGreatDoor.Abs
namespace Go.Proofs.YthbkdfcmjmmpgaaGreatDoor.Abs
open Go
section
variable {α β:Type}
def ix (xs:List α) (i:Int) (d:α) (f:α→Option β):Option β:=if 0≤i then(if i < (xs.length:Int) then f (xs.getD i.toNat d) else none) else none
def inb (xs:List α) (i:Int) (k:Option β):Option β:=if 0≤i then(if i < (xs.length:Int) then k else none) else none
def eM (s:aa_) (i:Int) (f:Int→Option β):Option β:=if 0≤i then(if i < (s.size:Int) then f (bt s i) else none) else none
def Kw (n:Int) (b:Nat) (d:α) (f:List α→Option β):Option β:=if 0≤n then(if n.toNat*b≤140737488355328 then f (bn_ n.toNat d) else none) else none
def cats (a b:aa_) (f:aa_→Option β):Option β:=if a.size+b.size≤9223372036854775807 then f (a++b) else none
def app (a b:List α) (n:Nat) (f:List α→Option β):Option β:=if(a.length+b.length)*n≤140737488355328 then f (a++b) else none
def Ez (s:aa_) (h:Int) (f:aa_→Option β):Option β:=if 0≤h then(if h≤(s.size:Int) then f (s.extract 0 h.toNat) else none) else none
def jv (s:aa_) (l:Int) (f:aa_→Option β):Option β:=if 0≤l then(if l≤(s.size:Int) then f (s.extract l.toNat s.size) else none) else none
def wh (s:aa_) (l h:Int) (f:aa_→Option β):Option β:=if 0≤h then(if h≤(s.size:Int) then(if 0≤l then(if l≤h then f (s.extract l.toNat h.toNat) else none) else none) else none) else none
def RB (xs:List α) (h:Int) (f:List α→Option β):Option β:=if 0≤h then(if h≤(xs.length:Int) then f (xs.take h.toNat) else none) else none
def RC (xs:List α) (l:Int) (f:List α→Option β):Option β:=if 0≤l then(if l≤(xs.length:Int) then f (xs.drop l.toNat) else none) else none
def tm (d:α) (xs:List α) (i:Int) (f:α→α) (k:List α→β):β:=k (xs.set i.toNat (f (xs.getD i.toNat d)))
def nz (b:Int) (k:Option β):Option β:=if b=0 then none else k
end
def Th:Nat→Nat→List Nat→List Nat
 | 0,_,l=>l
 | k+1,n,l=>match Nat.ble n 1 with
  | true=>l
  | false=>Th k (n / 2) (n % 2 :: l)
def Kx (c:Code) (l:List Nat) (S:List Fr):Code×List Fr:=match l with
 | []=>(c,S)
 | i :: l=>match c,i with
  | .seq a b,0=>Kx a l (.seq b :: S)
  | .seq _ b,1=>Kx b l S
  | .cond _ a _,0=>Kx a l S
  | .cond _ _ b,1=>Kx b l S
  | .block id b,0=>Kx b l (.block id :: S)
  | .loop b,0=>Kx b l (.loop b :: S)
  | _,_=>(.skip,[])
noncomputable abbrev bA (E:cP) (I:ay) (tab:aQ) (c:Code) (n:Nat) (σ:St):Option (I.sh.den×I.bx.den):=pt E (lT E) I (fC E I tab) (Kx c (Th 200 n []) []).1 (Kx c (Th 200 n []) []).2 σ
abbrev ag (x:Int):SV := .val (.int .i64) x
abbrev cZ (x:Bool):SV := .val .bool x
abbrev be (x:aa_):SV := .val .str x
abbrev aa:SV := .undef
abbrev ao (g:Nat) (fn:Func) (sh bx:Sh) (own:List Bool) (live:List (Nat×List Nat)):ay:={g,fn,sh,bx,own,live}
theorem wr {n:Int} (h0 : -9223372036854775808≤n) (h1:n≤9223372036854775807):IntKind.i64.wrap n=n:=by
 simp only[IntKind.wrap,IntKind.bits,IntKind.signed]
 simp
 omega
theorem toList_inj {a b:aa_} (h:a.toList=b.toList):a=b:=by
 rw[ByteArray.toList_eq,ByteArray.toList_eq] at h
 cases a
 cases b
 congr
 exact ec_.1 h
@[simp] theorem sG {a b:aa_}:(ah_ a == ah_ b)=decide (a=b):=by
 by_cases h:a=b
 ·subst h
  simp
 ·rw[decide_eq_false h]
  have:ah_ a≠ah_ b:=fun e=>h (toList_inj e)
  simpa using this
def Ky (a b:aa_):Bool:=Op.bytesLess (ah_ a) (ah_ b)
theorem iL {α:Type} {l r:List α} {y d:α}:List.getD (l++y :: r) (Int.toNat (l.length:Int)) d=y:=by
 simp[List.getD_eq_getElem?_getD]
theorem abo {α:Type} {l r:List α} {y z:α}:List.set (l++y :: r) (Int.toNat (l.length:Int)) z=l++z :: r:=by
 simp
theorem X8 {α:Type} {l:List α} {y:α}:((l.length:Nat):Int)+1=((l++[y]).length:Int):=by simp
theorem Nv {α:Type} {l r:List α} {y:α}:((l.length:Nat):Int) < ((l++y :: r).length:Int):=by
 simp only[af_,aj_]
 omega
theorem MF {n:Nat} (h:n≤4398046511104):n*32≤140737488355328:=bq_ (Nat.mul_le_mul_right 32 h) (by decide)
theorem nn (n:Nat):(0:Int)≤(n:Int):=Int.natCast_nonneg n
theorem Ev.val {R:Type} {x z:R} (h:x=z):Ev (fun _=>some x) z:=h ▸ Ev.now
theorem EA {α:Type} [Inhabited α] {lt:α→α→Bool} (h:Sort.SWO lt) (xs:List α):(fi lt xs).Perm xs:=by
 have:=(Sort.pdq_sorts lt h xs.toArray 0 xs.toArray.size (fk_ xs.toArray.size) true true (di_ _) (aq_ _) (.inl rfl)).1
 obtain⟨h1,_,h2⟩:=this
 unfold fi
 have e1 : ∀(A:Array α) (n:Nat),A.size=n→(A.extract 0 n).toList=A.toList:=by
  rintro A n rfl
  simp
 rw[e1 _ _ h1,e1 _ _ rfl] at h2
 exact h2
theorem GV {α:Type} [Inhabited α] {lt:α→α→Bool} (h:Sort.SWO lt) (xs:List α):(fi lt xs).length=xs.length:=(EA h xs).length_eq
theorem L1 {α:Type} [Inhabited α] {lt:α→α→Bool} (h:Sort.SWO lt) (xs:List α):(fi lt xs).Pairwise fun a b=>lt b a=false:=by
 have h0:=Sort.pdq_sorts lt h xs.toArray 0 xs.toArray.size (fk_ xs.toArray.size) true true (di_ _) (aq_ _) (.inl rfl)
 obtain⟨⟨h1,_⟩,h2⟩:=h0
 rw[List.pairwise_iff_getElem]
 intro i j hi hj hij
 unfold fi at hi hj ⊢
 have:=h2 i j (di_ _) hij (by rw[←h1]; simpa using hj)
 rw[getElem!_pos _ i (by simpa using hi),getElem!_pos _ j (by simpa using hj)] at this
 simpa using this
theorem EB {α:Type} {lt:α→α→Bool} : ∀ {l m:List α},l.Perm m→(l.Pairwise fun a b=>lt b a=false)→(m.Pairwise fun a b=>lt a b=true)→l=m
 | [],m,hp,_,_=>(List.nil_perm.1 hp).symm
 | x :: l,m,hp,hl,hm=>by
  obtain⟨m1,m2,rfl⟩:=List.append_of_mem (hp.subset (List.mem_cons_self (a:=x)))
  have hp':l.Perm (m1++m2):=(List.perm_cons x).1 (hp.trans List.perm_middle)
  cases m1 with
  | nil =>
   have:=EB hp' (ce_.1 hl).2 (ce_.1 hm).2
   rw[this]
   rfl
  | cons y m1 =>
   have h1:lt y x=true:=(ce_.1 hm).1 x (by simp)
   have h2:lt y x=false:=(ce_.1 hl).1 y (hp'.symm.subset (by simp))
   rw[h1] at h2
   cases h2
open Go Go.RowKit Go.ChangeShapes Go.WideShapes
def Cf:(t:Ty)→t.den→Prop
 | .int k,n=>(Lit.int k n).wf=true
 | .bool,_=>True
 | .err,_=>True
 | .fn,_=>True
 | .pt,_=>True
 | .bp _,_=>True
 | .str,s=>(s:aa_).size≤maxLen
 | .unit,_=>True
 | .pair a b,x=>Cf a x.1∧Cf b x.2
 | .agg t,x=>Cf t x
 | .slice _ t,xs=>(xs:List t.den).length≤maxLen ∧ ∀ x∈(xs:List t.den),Cf t x
def GW (P:Program) (g:TypeId→Ty→Bool):List Field→Ty→Nat→Bool
 | [],.unit,_=>true
 | f :: fs,.pair a b,o=>db_ f.offset o && db_ (P.cellsOf f.type) a.sz && g f.type a && GW P g fs b (o+a.sz)
 | _,_,_=>false
def gU (P:Program):Nat→TypeId→Ty→Bool
 | 0,_,_=>false
 | _+1,T,.int k=>match P.underlying T with | some (.int k')=>decide (k'=k) | _=>false
 | _+1,T,.bool=>match P.underlying T with | some .bool=>true | _=>false
 | _+1,T,.str=>match P.underlying T with | some .string=>true | _=>false
 | d+1,T,.slice e t=>match P.underlying T with | some (.slice e')=>db_ e' e && db_ (P.cellsOf e) t.sz && Nat.blt 0 t.sz && gU P d e t | _=>false
 | d+1,T,.agg t=>match P.underlying T with
  | some (.struct fs)=>db_ (P.cellsOf T) t.sz && GW P (gU P d) fs.toList t 0
  | _=>false
 | _,_,_=>false
theorem Kz {α:Type} {Q:Nat→α→Prop} : ∀(n:Nat),(∀ i,i < n → ∃ y,Q i y) → ∃ ys:List α,ys.length=n ∧ ∀ i (h:i < ys.length),Q i ys[i]
 | 0,_=>⟨[],rfl,fun i h=>by simp at h⟩
 | n+1,h=>by
  obtain⟨ys,h1,h2⟩:=Kz n (fun i hi=>h i (by omega))
  obtain⟨y,hy⟩:=h n (by omega)
  refine⟨ys++[y],by simp[h1],fun i hi => ?_⟩
  by_cases hin:i < ys.length
  ·rw[List.getElem_append_left hin]
   exact h2 i hin
  ·rw[af_,List.length_singleton] at hi
   have:i=n:=by omega
   subst this
   rw[List.getElem_append_right (by omega)]
   simpa[h1] using hy
section
variable {H:Type} {enc:TypeId×Value→H} {P:Program} {w:World} {base:Nat} {sp:Nat→Bool} {held:Bool}
theorem Nw {g:TypeId→Ty→Bool} {n:Nat} (hg : ∀ T t,g T t=true → ∀ cs x,DataW.trod enc P w base sp held n T cs=some x → ∃ y:t.den,RK (Et w) t y cs∧Cf t y) :
  ∀ {fs:List Field} {t:Ty} {o:Nat} {cs:List Value},GW P g fs t o=true→cs.length=o+t.sz→(∀ f∈fs,∃ x,DataW.trod enc P w base sp held n f.type ((cs.drop f.offset).take (P.cellsOf f.type))=some x) → ∃ y:t.den,RK (Et w) t y (cs.drop o)∧Cf t y
 | [],.unit,o,cs,_,hl,_=>⟨(),by
   show cs.drop o=[]
   exact List.drop_eq_nil_of_le (by rw[hl]; exact aq_ _),trivial⟩
 | f :: fs,.pair a b,o,cs,h,hl,hf=>by
  simp only[GW,ag_] at h
  obtain⟨⟨⟨h1,h2⟩,h3⟩,h4⟩:=h
  have h1:=br_ h1
  have h2:=br_ h2
  obtain⟨x,hx⟩:=hf f (by simp)
  rw[h1,h2] at hx
  obtain⟨y1,k1,m1⟩:=hg f.type a h3 _ _ hx
  have hl':cs.length=o+a.sz+b.sz:=by
   rw[hl,dq_]
   rfl
  obtain⟨y2,k2,m2⟩:=Nw hg (fs:=fs) (t:=b) (o:=o+a.sz) (cs:=cs) h4 hl' (fun f hf'=>hf f (ar_ _ hf'))
  refine⟨(y1,y2),⟨(cs.drop o).take a.sz,cs.drop (o+a.sz),?_,k1,k2⟩,m1,m2⟩
  rw[←List.drop_drop,List.take_append_drop]
 | [],.int _,_,_,h,_,_=>by cases h
 | [],.bool,_,_,h,_,_=>by cases h
 | [],.err,_,_,h,_,_=>by cases h
 | [],.fn,_,_,h,_,_=>by cases h
 | [],.pt,_,_,h,_,_=>by cases h
 | [],.bp _,_,_,h,_,_=>by cases h
 | [],.str,_,_,h,_,_=>by cases h
 | [],.pair _ _,_,_,h,_,_=>by cases h
 | [],.agg _,_,_,h,_,_=>by cases h
 | [],.slice _ _,_,_,h,_,_=>by cases h
 | _ :: _,.int _,_,_,h,_,_=>by cases h
 | _ :: _,.bool,_,_,h,_,_=>by cases h
 | _ :: _,.err,_,_,h,_,_=>by cases h
 | _ :: _,.fn,_,_,h,_,_=>by cases h
 | _ :: _,.pt,_,_,h,_,_=>by cases h
 | _ :: _,.bp _,_,_,h,_,_=>by cases h
 | _ :: _,.str,_,_,h,_,_=>by cases h
 | _ :: _,.unit,_,_,h,_,_=>by cases h
 | _ :: _,.agg _,_,_,h,_,_=>by cases h
 | _ :: _,.slice _ _,_,_,h,_,_=>by cases h
theorem I4 : ∀(d:Nat) (T:TypeId) (t:Ty),gU P d T t=true → ∀(fuel:Nat) (cs:List Value) (x:DataW H×List MemPlace),DataW.trod enc P w base sp held fuel T cs=some x → ∃ y:t.den,RK (Et w) t y cs∧Cf t y
 | 0,_,_,h,_,_,_,_=>by simp[gU] at h
 | d+1,T,.int k,h,fuel,cs,x,hx=>by
  unfold gU at h
  split at h
  ·rename_i k' hu
   have:=dx_ h
   subst this
   obtain⟨n,rfl,_,hw⟩:=DataW.trod_int hu hx
   exact⟨n,rfl,hw⟩
  ·cases h
 | d+1,T,.bool,h,fuel,cs,x,hx=>by
  unfold gU at h
  split at h
  ·rename_i hu
   obtain⟨b,rfl,_⟩:=DataW.trod_bool hu hx
   exact⟨b,rfl,trivial⟩
  ·cases h
 | d+1,T,.str,h,fuel,cs,x,hx=>by
  unfold gU at h
  split at h
  ·rename_i hu
   obtain⟨s,rfl,_,hw⟩:=DataW.trod_string hu hx
   exact⟨s,rfl,hw⟩
  ·cases h
 | d+1,T,.slice e t,h,fuel,cs,x,hx=>by
  unfold gU at h
  split at h
  ·rename_i e' hu
   simp only[ag_] at h
   obtain⟨⟨⟨h1,h2⟩,h3⟩,h4⟩:=h
   have h1:=br_ h1
   subst h1
   have h2:=br_ h2
   have h3:0 < t.sz:=by simpa[Nat.blt_eq] using h3
   rcases DataW.trod_slice hu hx with⟨rfl,_⟩ | ⟨a,len,cap,elems,rest,n,rfl,rfl,rfl,hb,hle,hmax,hlen,hel,_⟩
   ·exact⟨([]:List t.den),⟨none,0,rfl,aq_ _,fun h=>bh_ rfl h⟩,di_ _,fun x hx=>by cases hx⟩
   ·have each : ∀ i,i < len → ∃ y:t.den,Cf t y ∧ ∃ c,RK (Et w) t y c∧c.length=t.sz ∧ ∀ j,j < t.sz→w.cell? ((a.add (i*t.sz)).add j)=c[j]? := by
     intro i hi
     have h5:=hel i hi
     rw[as_ (by omega),al_,h2] at h5
     obtain⟨c,h6,h7⟩:=h5
     obtain⟨_,h8,h9⟩:=World.cells?_some h6
     obtain⟨y,h10,h11⟩:=I4 d e' t h4 _ _ _ h7
     exact⟨y,h11,c,h10,h8,h9⟩
    obtain⟨ys,hyl,hy⟩:=Kz len each
    have hyl':len=ys.length:=hyl.symm
    subst hyl'
    refine⟨ys,⟨some a,cap,rfl,hle,fun hne => ?_⟩,bq_ hle hmax,fun y hyy => ?_⟩
    ·have hpos:0 < ys.length:=by
      cases ys with
      | nil=>exact bh_ rfl hne
      | cons _ _=>simp
     obtain⟨_,c0,_,hcl,hcc⟩:=hy 0 hpos
     have hsp:a.spot=none:=by
      have:=hcc 0 h3
      rw[as_ (by omega)] at this
      unfold World.cell? at this
      split at this
      ·cases hs:a.spot with
       | none=>rfl
       | some z =>
        simp[Addr.add,hs] at this
      ·cases this
     obtain⟨b,o,s⟩:=a
     simp only at hsp
     subst hsp
     refine⟨b,o,rfl,fun i hi => ?_⟩
     obtain⟨_,c,k1,k2,k3⟩:=hy i hi
     refine⟨c,k1,fun j v hj=>⟨trivial,?_⟩⟩
     have hjl:j < t.sz:=by
      rw[←k2]
      exact(ax_.1 hj).1
     have:=k3 j hjl
     rw[hj,gR,gR] at this
     exact this
    ·obtain⟨i,hi,he⟩:=dk_ hyy
     rw[←he]
     exact(hy i hi).1
  ·cases h
 | d+1,T,.agg t,h,fuel,cs,x,hx=>by
  unfold gU at h
  split at h
  ·rename_i fs hu
   simp only[ag_] at h
   have h1:=br_ h.1
   obtain⟨xs,n,rfl,rfl,hl,hxl,hf⟩:=DataW.trod_struct hu hx
   have:=Nw (g:=gU P d) (n:=n) (fun T t hT cs x hx=>I4 d T t hT n cs x hx) (cs:=cs) h.2 (by rw[hl,h1,dd_]) (fun f hfm=>by
    obtain⟨i,hi,he⟩:=dk_ hfm
    have hi':i < fs.size:=by simpa using hi
    have:=hf i f (by rw[cw_ hi']; simpa using he)
    rw[as_ (by omega)] at this
    exact⟨_,this⟩)
   obtain⟨y,h3,h4⟩:=this
   exact⟨y,h3,h4⟩
  ·cases h
 | d+1,T,.unit,h,_,_,_,_=>by simp[gU] at h
 | d+1,T,.err,h,_,_,_,_=>by simp[gU] at h
 | d+1,T,.fn,h,_,_,_,_=>by simp[gU] at h
 | d+1,T,.pt,h,_,_,_,_=>by simp[gU] at h
 | d+1,T,.bp _,h,_,_,_,_=>by simp[gU] at h
 | d+1,T,.pair _ _,h,_,_,_,_=>by simp[gU] at h
theorem X9 {d:Nat} {T:TypeId} {t:Ty} (h:gU P d T t=true) {r:Reach} {v:Value} (hv:Value.okWide P w r base T v):v=mk t v.cells.toList:=by
 cases d with
 | zero=>simp[gU] at h
 | succ d =>
  unfold gU at h
  cases t with
  | int k =>
   simp only at h
   split at h
   ·rename_i hu
    obtain⟨n,rfl⟩:=okWide_int hu hv
    rfl
   ·cases h
  | bool =>
   simp only at h
   split at h
   ·rename_i hu
    obtain⟨b,rfl⟩:=okWide_bool hu hv
    rfl
   ·cases h
  | str =>
   simp only at h
   split at h
   ·rename_i hu
    obtain⟨s,rfl⟩:=okWide_string hu hv
    rfl
   ·cases h
  | slice e t =>
   simp only at h
   split at h
   ·rename_i hu
    obtain⟨a,l,c,rfl⟩:=okWide_slice hu hv
    rfl
   ·cases h
  | agg t =>
   simp only at h
   split at h
   ·rename_i hu
    obtain⟨cs,rfl,_⟩:=okWide_struct hu hv
    show Value.agg cs = .agg cs.toList.toArray
    simp
   ·cases h
  | unit=>simp at h
  | err=>simp at h
  | fn=>simp at h
  | pt=>simp at h
  | bp _=>simp at h
  | pair a b=>simp at h
theorem abp {d:Nat} {T:TypeId} {t:Ty} (h:gU P d T t=true) {r:Reach} {v:Value} {x:DataW H} {ps:List MemPlace} (hv:Value.okWide P w r base T v) (hx:DataW.Trod enc P w 0 sp held T v x ps) : ∃ y:t.den,Cf t y∧v=mk t v.cells.toList∧RK (Et w) t y v.cells.toList:=by
 obtain⟨fuel,hx⟩:=hx
 obtain⟨y,h1,h2⟩:=I4 d T t h fuel _ _ hx
 exact⟨y,h2,X9 h hv,h1⟩
end
abbrev GX (w:World) (b o:Nat):Prop := ∃ v,w.cell? ⟨b,o,none⟩=some v
theorem VJ {w:World} {args:List SV} {us:List Value} (h:cG (Ln (GX w) w) (fun _=>none) args us):bH w (nE [] fun _=>none) (GX w) args (aL []) (fun _=>none) (GX w) {tmps:=us.toArray,defers:=[]} w:=by
 refine⟨h,rfl,(fun r e t v h=>by cases h),(fun r b t h=>by cases h),(fun r x h=>by cases h),(fun r r' x x' b h=>by cases h),(fun r x b h=>by cases h),(fun r x b h=>by cases h),fun _ _ _=>rfl,aq_ _,rfl,rfl,rfl,?_,fun _ _ _ _ h=>h,fun _ _ _ h=>h⟩
 rintro b o ⟨v,hv⟩
 unfold World.cell? at hv
 split at hv
 ·rename_i h
  exact(cg_.1 h).1
 ·cases hv
theorem abq {w:World} {t:Ty} {y:t.den} {v:Value} (h1:v=mk t v.cells.toList) (h2:RK (Et w) t y v.cells.toList):RV (Ln (GX w) w) (fun _=>none) (.val t y) v:=by
 rw[h1]
 exact .val (gQ (fun b o v h=>⟨⟨v,h.2⟩,h.2⟩) h2)
theorem VK {P:Program} {E:cP} {Gp:WP} (hst:GJ Gp) (hm:P.follows .mixedOrders=true) (hE:fY P E) (hP:yl Gp P E) {I:ay} {key:Nat} (hg:du E.fns key=some I) {args:List SV} {z:I.sh.den×I.bx.den} (h:uR E I args [] z)
  (h1:cd I.sh z.1 0=([.val .bool true],[],0)) (h2:cd I.bx z.2 0=([],[],0)) (h3:cN I.rb [] [] (rX I.bx)=some []) {w:World} {us:List Value} (hGp:Gp w (nE [] fun _=>none)) (hu:cG (Ln (GX w) w) (fun _=>none) args us) :
  Calls P I.g us.toArray w fun e w'=>e = .returned (.bool true)∧Below w.heap.size w w':=by
 have:=h.calls hst hm hE hP hg (fun k p hp=>by simp at hp) hGp (VJ hu) (fun _ _=>rfl) (N:=0) (di_ _) h1 h2 h3
 refine this.mono ?_
 rintro e w' ⟨vals,γr,Pr',rfl,hB,_⟩
 have hv:=hB.vals
 cases hv with
 | cons hv hk =>
  cases hk
  have:=iU hv
  subst this
  refine⟨rfl,hB.os,hB.tape,hB.output,hB.size,fun k hk=>hB.frame k hk ?_⟩
  rintro⟨j,x,hj,_⟩
  cases hj
end Go.Proofs.YthbkdfcmjmmpgaaGreatDoor.Abs
namespace Go.Proofs.YthbkdfcmjmmpgaaGreatDoor.Abs
open Go Go.RowKit
def hJ:(t:Ty)→t.den→List Value
 | .int k,n=>[.int k n]
 | .bool,b=>[.bool b]
 | .err,_=>[]
 | .fn,_=>[]
 | .pt,_=>[]
 | .bp _,_=>[]
 | .str,s=>[.string s]
 | .unit,_=>[]
 | .pair a b,x=>hJ a x.1++hJ b x.2
 | .agg t,x=>hJ t x
 | .slice _ _,_=>[]
theorem p9 {L:Lk} : ∀ {t:Ty} {x:t.den} {cs:List Value},dp t=true→(RK L t x cs↔cs=hJ t x)
 | .int k,n,cs,_=>Iff.rfl
 | .bool,b,cs,_=>Iff.rfl
 | .err,_,_,hn=>by cases hn
 | .fn,_,_,hn=>by cases hn
 | .pt,_,_,hn=>by cases hn
 | .bp _,_,_,hn=>by cases hn
 | .str,s,cs,_=>Iff.rfl
 | .unit,_,cs,_=>Iff.rfl
 | .pair a b,x,cs,hn=>by
  simp only[dp,ag_] at hn
  constructor
  ·rintro⟨c,d,rfl,h1,h2⟩
   rw[(p9 hn.1).1 h1,(p9 hn.2).1 h2]
   rfl
  ·rintro rfl
   exact⟨_,_,rfl,(p9 hn.1).2 rfl,(p9 hn.2).2 rfl⟩
 | .agg t,x,cs,hn=>p9 (t:=t) hn
 | .slice _ _,_,_,hn=>by cases hn
theorem I5 {t:Ty} (hn:dp t=true) (x:t.den):(hJ t x).length=t.sz:=eC (L:=fun _ _ _=>True) ((p9 hn).2 rfl)
theorem aaf {t:Ty} (hn:dp t=true) (x:t.den) : ∀ v∈hJ t x,v.oneCell'=true:=nY (L:=fun _ _ _=>True) ((p9 hn).2 rfl)
theorem RD {L:Lk} {t:Ty} (hn:dp t=true) {xs:List t.den} {css:List (List Value)}:kQ L t xs css↔css=xs.map (hJ t):=by
 constructor
 ·rintro⟨h1,h2⟩
  apply List.ext_getElem (by simp[h1])
  intro i h3 h4
  rw[List.getElem_map]
  exact(p9 hn).1 (h2 i (by omega) h3)
 ·rintro rfl
  refine⟨by simp,fun i h h' => ?_⟩
  rw[List.getElem_map]
  exact(p9 hn).2 rfl
theorem acY {w:World} {base:Nat} {e:TypeId} {size:Nat} {v:Value} {n:Nat} {xs:List Value} (h:w.ownsRow base e size v n xs):w.ownsRow 0 e size v n xs:=by
 refine⟨h.1,?_⟩
 rcases h.2 with h2 | ⟨g,cap,cur,h3,_,h4⟩
 ·exact .inl h2
 ·exact .inr ⟨g,cap,cur,h3,di_ _,h4⟩
end Go.Proofs.YthbkdfcmjmmpgaaGreatDoor.Abs
namespace Go.Proofs.YthbkdfcmjmmpgaaGreatDoor.Abs
open Go Go.RowKit
def Ti:(s:Sh)→s.den→List Value→Prop
 | .pair (.val t) b,x,us => ∃ cs us',us=mk t cs :: us'∧RK (fun _ _ _=>False) t x.1 cs∧Ti b x.2 us'
 | .unit,_,us=>us=[]
 | _,_,_=>False
theorem EC {γ:Nat→Option G} : ∀ {s:Sh} {x:s.den} {us:List Value} (n:Nat),Ti s x us → ∃ vs,cd s x n=(vs,[],n)∧cG (fun _ _ _=>False) γ vs us
 | .pair (.val t) b,x,us,n,h=>by
  obtain⟨cs,us',rfl,hk,h⟩:=h
  obtain⟨vs,h1,h2⟩:=EC (γ:=γ) (s:=b) (x:=x.2) n h
  refine⟨.val t x.1 :: vs,?_,.cons (.val hk) h2⟩
  show(let (v,u,m):=aR (.val t) x.1 n; let (l,u',m'):=aR.go b x.2 m; (v :: l,u++u',m'))=_
  have h1:aR.go b x.2 n=(vs,[],n):=h1
  simp only[aR,h1,bv_]
 | .unit,x,us,n,h=>⟨[],rfl,by rw[show us=[] from h]; exact .nil⟩
 | .val _,_,_,_,h=>h.elim
 | .row _ _ _,_,_,_,h=>h.elim
 | .strct _,_,_,_,h=>h.elim
 | .ptr _,_,_,_,h=>h.elim
 | .pair .unit _,_,_,_,h=>h.elim
 | .pair (.row _ _ _) _,_,_,_,h=>h.elim
 | .pair (.pair _ _) _,_,_,_,h=>h.elim
 | .pair (.strct _) _,_,_,_,h=>h.elim
 | .pair (.ptr _) _,_,_,_,h=>h.elim
theorem k8 {Gp:WP} {P:Program} {g:Nat} {fn:Func} {sh:Sh} {own:List Bool} {live:List (Nat×List Nat)} {pr:Option (List SV→aQ→Option (sh.den×Sh.unit.den))} {args:List SV} {z:sh.den×Sh.unit.den} (hz : ∀ n,(cd sh z.1 n).2=([],n))
  (hcall : ∀(w:World) (Pr:Nat→Nat→Prop) (γ:Nat→Option G) (us:List Value),Gp w (fun _=>False)→(∀ b o,Pr b o→b < w.heap.size)→cG (Ln Pr w) γ args us→Calls P g us.toArray w fun e w' => ∃ us',e = .returned (B8 us')∧Ti sh z.1 us'∧Below w.heap.size w w') (hst : ∀ w X,Gp w X→Gp w fun _=>False) :
  fh Gp P {g:=g,fn:=fn,sh:=sh,bx := .unit,own:=own,live:=live,prim:=pr} args [] z:=by
 intro hcanon w γ Pr us hG hI hlim N hN vs u n bs u' n' ub hm1 hm2 hub
 have hu:=hz N
 rw[show cd sh z.1 N=(vs,u,n) from hm1] at hu
 obtain⟨rfl,rfl⟩:=Prod.mk.inj hu
 cases hm2
 cases hub
 refine(hcall w _ γ us (hst _ _ hG) hI.prIn hI.slots).mono ?_
 rintro e w' ⟨us',rfl,hf,hB⟩
 obtain⟨vs',hv1,hv2⟩:=EC (γ:=fun _=>none) n hf
 rw[show cd sh z.1 n=(vs,[],n) from hm1] at hv1
 cases hv1
 refine⟨_,fun _=>none,Pr,rfl,⟨g8 (fun _ _ _ h=>h.elim) (fun _ _ h=>h) hv2,?_,?_,?_,?_,?_,?_,?_,?_,?_,hB.size,hB.os,hB.tape,hB.output,?_,?_,?_⟩,?_⟩
 ·intro r g h; cases h
 ·intro j t c h; simp at h
 ·intro r x h; cases h
 ·intro r r' x x' b h; cases h
 ·intro j t c b h; simp at h
 ·intro j t c b h; simp at h
 ·intro r x b h; cases h
 ·intro r x b h; cases h
 ·exact fun k hk _=>hB.block k hk
 ·exact fun b o ho=>cv_ (hI.prIn b o ho) hB.size
 ·exact fun b hb hx o ho=>ho
 ·intro b o v hv
  refine⟨hv.1,?_⟩
  rw[World.cell?_of_block (hB.block b (hI.prIn b o hv.1))]
  exact hv.2
 ·intro p hp
  cases hp
abbrev iW:=String×(Array Value→Prop)
def gz (P:Program) (l:List iW):WP:=fun w X => ∀ p∈l,(∃ a,w.var? P p.1=some a∧p.2 a) ∧ ∀ g,P.globalNamed p.1=some g → ¬X g
theorem gz.stable {P:Program} {l:List iW}:GJ (gz P l):=by
 intro w0 X w X' h k p hp
 obtain⟨⟨a,h1,h0⟩,h2⟩:=h p hp
 unfold World.var? at h1 ⊢
 cases hg:P.globalNamed p.1 with
 | none=>rw[hg] at h1; cases h1
 | some g =>
  rw[hg] at h1
  simp only[ab_] at h1 ⊢
  have hlt:g < w0.heap.size:=by
   rcases Nat.lt_or_ge g w0.heap.size with h | h
   ·exact h
   ·rw[ex_ h] at h1
    cases h1
  obtain⟨_,k2,k3⟩:=k g hlt (h2 g hg)
  rw[k3]
  exact⟨⟨a,h1,h0⟩,fun g' hg'=>by cases hg'; exact k2⟩
theorem gz.none {P:Program} {l:List iW} {w:World} {X:Nat→Prop} (h:gz P l w X):gz P l w fun _=>False :=
 fun p hp=>⟨(h p hp).1,fun _ _ h=>h⟩
theorem Nx {c:aa_} (h:uS c=true):c.size < 4294967281 ∧ ∀(j:Nat) b,c.data.toList[j]? = some b→b.toNat < 128:=by
 unfold uS at h
 simp only[ag_,ai_,cl_] at h
 exact⟨by omega,fun j b hj=>h.2 b (cd_ hj)⟩
def yn (n:String):iW:=(n,fun a => ∃ m,a[0]? = some (.int .i64 m))
def GY (n:String):iW:=(n,fun a => ∃ tp p,a = #[.iface tp p])
theorem ED {P:Program} {l:List iW} {w:World} {n:String} {g:Nat} (h:gz P l w fun _=>False) (hm:yn n∈l) (hg:P.globalNamed n=some g) : ∃ m,w.cell? ⟨g,0,Option.none⟩=some (.int .i64 m):=by
 obtain⟨⟨a,h1,m,h2⟩,_⟩:=h _ hm
 refine⟨m,?_⟩
 have:=World.var?_cell hg h1 0
 rw[this]
 exact h2
theorem VL {P:Program} {w:World} {n:String} {g:Nat} (hg:P.globalNamed n=some g) (h : ∃ m,w.cell? ⟨g,0,Option.none⟩=some (.int .i64 m)) : ∃ a,w.var? P (yn n).1=some a∧(yn n).2 a:=by
 obtain⟨m,h⟩:=h
 unfold World.cell? at h
 split at h
 ·rename_i c t z hc
  refine⟨c,?_,m,h⟩
  show World.var? P w n=some c
  unfold World.var?
  rw[hg]
  simp only[ab_,hc]
 ·cases h
end Go.Proofs.YthbkdfcmjmmpgaaGreatDoor.Abs
