/- Regions whose operations may stand in other orders. -/
import Derived.Test.YtfffplonjaigkaaGreatDoorZA2
import Derived.LoopN
import Derived.Sort.AssemblyPlain
import Derived.Lib.BitFns
import Derived.Lib.ItoaNum
import Derived.Lib.SlTrimSet
import Derived.Lib.IndexMore
import Derived.Lib.Split
import Derived.Lib.Replace
import Derived.Lib.Join
import Derived.Lib.ParseIntB
import Derived.Lib.Strings
import Derived.Sort.Walk0
import Derived.ChangeArms
import Derived.DataReads
import Derived.WideShapes
import Derived.Carry
import Derived.OpenShut
import Derived.LaidLaws
import Derived.LaidHandle
import Derived.LaidMore
import Derived.Lib.LaidTab
import Derived.Below
set_option linter.unusedVariables false
set_option linter.unusedSimpArgs false
set_option linter.unusedSectionVars false
open Array renaming getD_eq_getD_getElem?→Y1,getElem?_eq_getElem→X9,getElem?_eq_none→bj_,getElem?_eq_some_iff→V8,getElem?_toList→Y6,size_push→dt_,toList_inj→ab_
open Bool renaming and_eq_true→S8,not_eq_true'→az_,not_true→V6,or_eq_false_iff→cl_
open ByteArray renaming toList→S2
open Go.Result renaming andThen_ok→T6
open Go.Sem renaming run_bind→U5,run_pure→V0
open Int renaming toNat→V1
open List renaming all_eq_true→Z2,append_nil→W9,eq_nil_of_length_eq_zero→W8,foldl_cons→bm_,getElem?_append_left→X8,getElem?_append_right→Z3,getElem?_eq_getElem→T9,getElem?_eq_some_iff→U0,getElem_of_mem→Z9,length_append→S5,length_cons→T3,map_cons→Y4,mem_append_left→ap_,mem_append_right→al_,mem_append→W1,mem_cons_of_mem→T8,mem_cons→U7,mem_map_of_mem→bb_,mem_of_getElem?→W4,mem_singleton→U4,nodup_cons→bp_,pairwise_cons→V7,pairwise_map→ba_,prefix_rfl→cz_,range→aq_,replicate→W3
open List.cons renaming inj→ce_
open Nat renaming add_assoc→Z8,add_sub_cancel_left→cv_,add_zero→au_,beq→Y3,eq_of_beq_eq_true→W2,le_refl→T7,le_trans→W7,lt_of_lt_of_le→X1,zero_add→Y5,zero_le→aa_
open Option renaming bind_eq_some_iff→S7,bind_some→S1,getD_some→Z6
open Option.some renaming injEq→U3,inj→X0
open _root_ renaming ByteArray→S0,absurd→V2,congrArg→T4,decide_eq_true_eq→T0,if_neg→S4,if_pos→S6,of_decide_eq_true→X7
namespace Go.Proofs.YtfffplonjaigkaaGreatDoor.Abs
open Go Go.RowKit
theorem Pz {s:Nat} {e:Nat} {b:Nat} {a:Nat}:(s ||| 2 ^ e ||| b).testBit a=(s.testBit a || decide (e=a) || b.testBit a):=by
 simp[Nat.testBit_or,Nat.testBit_two_pow]
theorem DB (g:Nat→Nat) (a:Nat) : ∀(l:List Edge) (s:Nat),(l.foldl (fun s e=>if Region.binds .any e then s ||| 2 ^ e.on ||| g e.on else s) s).testBit a=true→s.testBit a=true ∨ ∃ e∈l,Region.binds .any e=true∧(e.on=a∨(g e.on).testBit a=true)
 | [],s,h => .inl h
 | e :: l,s,h=>by
  rw[bm_] at h
  rcases DB g a l _ h with h | ⟨e',h1,h2⟩
  ·split at h
   ·rename_i hb
    rw[Pz] at h
    simp only[Bool.or_eq_true,T0] at h
    rcases h with(h | h) | h
    ·exact .inl h
    ·exact .inr ⟨e,by simp,hb,.inl h⟩
    ·exact .inr ⟨e,by simp,hb,.inr h⟩
   ·exact .inl h
  ·exact .inr ⟨e',T8 _ h1,h2⟩
def AX (acc:Array Nat) (o:Oper):Nat:=o.after.foldl (fun s e=>if Region.binds .any e then s ||| 2 ^ e.on ||| acc.getD e.on 0 else s) 0
theorem yO : ∀(l:List Oper) (acc:Array Nat),let r:=l.foldl (fun acc o=>acc.push (AX acc o)) acc
  r.size=acc.size+l.length∧(∀ k,k < acc.size→r[k]? = acc[k]?) ∧ ∀ k o,l[k]? = some o → ∃ acc',(∀ j,j < acc.size+k→acc'[j]? = r[j]?)∧acc'.size=acc.size+k∧r[acc.size+k]? = some (AX acc' o)
 | [],acc=>⟨by simp,fun k _=>rfl,fun k o h=>by simp at h⟩
 | o :: l,acc=>by
  obtain⟨h1,h2,h3⟩:=yO l (acc.push (AX acc o))
  refine⟨by simp only[bm_,h1,dt_,T3]; omega,fun k hk => ?_,fun k o' hk => ?_⟩
  ·rw[bm_,h2 k (by rw[dt_]; omega),Array.getElem?_push_lt hk,X9 hk]
  ·rw[bm_]
   cases k with
   | zero =>
    simp at hk
    subst hk
    refine⟨acc,fun j hj => ?_,rfl,?_⟩
    ·rw[h2 j (by rw[dt_]; omega),Array.getElem?_push_lt (by omega),X9 (by omega)]
    ·rw[h2 (acc.size+0) (by rw[dt_]; omega)]
     simp
   | succ k =>
    obtain⟨acc',h4,h5,h6⟩:=h3 k o' (by simpa using hk)
    rw[dt_] at h4 h5 h6
    refine⟨acc',fun j hj=>h4 j (by omega),by omega,?_⟩
    rw[show acc.size+(k+1)=acc.size+1+k by omega]
    exact h6
theorem LX {all:Array Oper} {a b:Nat} (h:((Region.before all).getD b 0).testBit a=true) : ∃ o,all[b]? = some o ∧ ∃ e∈o.after,Region.binds .any e=true∧(e.on=a∨(e.on < b∧((Region.before all).getD e.on 0).testBit a=true)):=by
 have hb:Region.before all=all.toList.foldl (fun acc o=>acc.push (AX acc o)) #[]:=by
  unfold Region.before
  rw[←Array.foldl_toList]
  rfl
 obtain⟨h1,_,h3⟩:=yO all.toList #[]
 rw[←hb] at h1 h3
 have hlt:b < all.size:=by
  rcases Nat.lt_or_ge b all.size with h' | h'
  ·exact h'
  ·have:(Region.before all)[b]? = none:=bj_ (by rw[h1]; simpa using h')
   rw[Y1,this] at h
   simp at h
 obtain⟨acc',h4,h5,h6⟩:=h3 b all[b] (by rw[Y6]; exact X9 hlt)
 simp only[Array.size_empty,Y5] at h4 h5 h6
 refine⟨all[b],X9 hlt,?_⟩
 rw[Y1,h6,Z6] at h
 unfold AX at h
 rw[←Array.foldl_toList] at h
 rcases DB (fun n=>acc'.getD n 0) a _ 0 h with h | ⟨e,h7,h8,h9⟩
 ·simp at h
 ·refine⟨e,by simpa using h7,h8,?_⟩
  rcases h9 with h9 | h9
  ·exact .inl h9
  ·right
   by_cases he:e.on < b
   ·refine⟨he,?_⟩
    rw[Y1,←h4 e.on he,←Y1]
    exact h9
   ·rw[Y1,bj_ (by omega)] at h9
    simp at h9
theorem DC {all:Array Oper} {S:Nat→Prop} (hS : ∀ b o,S b→all[b]? = some o → ∀ e∈o.after,Region.binds .any e=true→S e.on) : ∀(b a:Nat),(∀ o,all[b]? = some o → ∀ e∈o.after,Region.binds .any e=true→S e.on)→((Region.before all).getD b 0).testBit a=true→S a:=by
 intro b
 induction b using Nat.strongRecOn with
 | _ b ih =>
  intro a hb h
  obtain⟨o,ho,e,he,hbd,h | ⟨hlt,h⟩⟩:=LX h
  ·rw[←h]
   exact hb o ho e he hbd
  ·have hse:=hb o ho e he hbd
   exact ih e.on hlt a (fun o' ho' e' he' hb'=>hS e.on o' hse ho' e' he' hb') h
structure Tr where
 i:Nat
 o:Oper
 v:SV
 u:Up
 see:List Nat
 ran:Bool
def i8 (τ:Tr):wu:={i:=τ.i,see:=τ.see,turn:=τ.u.map (·.1)}
def fT (S:Nat→Bool):List Tr→List SV→List SV
 | [],sl=>sl
 | τ :: T,sl=>fT S T (if S τ.i=true then kb sl τ.o.dst τ.v else sl)
def gI (S:Nat→Bool):List Tr→(Nat→Option aP)→Nat→Option aP
 | [],g=>g
 | τ :: T,g=>gI S T (if S τ.i=true then bo g τ.u else g)
theorem zC {S:Nat→Bool} : ∀ {T:List Tr} {sl:List SV},(∀ τ∈T,S τ.i=false)→fT S T sl=sl
 | [],_,_=>rfl
 | τ :: T,sl,h=>by
  unfold fT
  rw[S4 (by rw[h τ (by simp)]; simp)]
  exact zC fun τ hτ=>h τ (T8 _ hτ)
theorem zD {S:Nat→Bool} : ∀ {T:List Tr} {g:Nat→Option aP},(∀ τ∈T,S τ.i=false)→gI S T g=g
 | [],_,_=>rfl
 | τ :: T,g,h=>by
  unfold gI
  rw[S4 (by rw[h τ (by simp)]; simp)]
  exact zD fun τ hτ=>h τ (T8 _ hτ)
theorem wF {S S':Nat→Bool} : ∀ {T:List Tr} {sl:List SV},(∀ τ∈T,S τ.i=S' τ.i)→fT S T sl=fT S' T sl
 | [],_,_=>rfl
 | τ :: T,sl,h=>by
  unfold fT
  rw[h τ (by simp)]
  exact wF fun τ hτ=>h τ (T8 _ hτ)
theorem wG {S S':Nat→Bool} : ∀ {T:List Tr} {g:Nat→Option aP},(∀ τ∈T,S τ.i=S' τ.i)→gI S T g=gI S' T g
 | [],_,_=>rfl
 | τ :: T,g,h=>by
  unfold gI
  rw[h τ (by simp)]
  exact wG fun τ hτ=>h τ (T8 _ hτ)
theorem yP : ∀(l:List SV) (d:Nat) (v:SV),(cH l d v).length=l.length
 | [],_,_=>rfl
 | x :: l,0,v=>rfl
 | x :: l,d+1,v=>by simp[cH,yP l d v]
theorem FK : ∀(l:List SV) (d t:Nat) (v:SV),d≠t→eW (cH l d v) t=eW l t
 | [],_,_,_,_=>rfl
 | x :: l,0,0,v,h=>V2 rfl h
 | x :: l,0,t+1,v,h=>rfl
 | x :: l,d+1,0,v,h=>rfl
 | x :: l,d+1,t+1,v,h=>FK l d t v (fun e=>h (by rw[e]))
theorem DD : ∀(l l':List SV) (d:Nat) (v:SV),l.length=l'.length→eW (cH l d v) d=eW (cH l' d v) d
 | [],[],_,_,_=>rfl
 | [],_ :: _,_,_,h=>by simp at h
 | _ :: _,[],_,_,h=>by simp at h
 | x :: l,y :: l',0,v,h=>rfl
 | x :: l,y :: l',d+1,v,h=>DD l l' d v (by simpa using h)
theorem FL : ∀(l:List SV) (d e:Nat) (v u:SV),d≠e→cH (cH l d v) e u=cH (cH l e u) d v
 | [],_,_,_,_,_=>rfl
 | x :: l,0,0,v,u,h=>V2 rfl h
 | x :: l,0,e+1,v,u,h=>rfl
 | x :: l,d+1,0,v,u,h=>rfl
 | x :: l,d+1,e+1,v,u,h=>T4 (x :: ·) (FL l d e v u (fun hh=>h (by rw[hh])))
theorem AY {S S':Nat→Bool} {t:Nat} : ∀ {T:List Tr} {sl sl':List SV},(∀ τ∈T,τ.o.dst=some t→S τ.i=S' τ.i)→sl.length=sl'.length→eW sl t=eW sl' t→eW (fT S T sl) t=eW (fT S' T sl') t
 | [],_,_,_,_,h=>h
 | τ :: T,sl,sl',hT,hl,hs=>by
  unfold fT
  refine AY (fun τ hτ=>hT τ (T8 _ hτ)) ?_ ?_
  ·have : ∀(S:Nat→Bool) (sl:List SV),(if S τ.i=true then kb sl τ.o.dst τ.v else sl).length=sl.length:=by
    intro S sl
    split
    ·unfold kb
     split
     ·exact yP _ _ _
     ·rfl
    ·rfl
   rw[this,this,hl]
  ·by_cases hd:τ.o.dst=some t
   ·rw[hT τ (by simp) hd]
    split
    ·rw[hd]
     exact DD _ _ _ _ hl
    ·exact hs
   ·have : ∀(S:Nat→Bool) (sl:List SV),eW (if S τ.i=true then kb sl τ.o.dst τ.v else sl) t=eW sl t:=by
     intro S sl
     split
     ·unfold kb
      split
      ·rename_i d hdd
       exact FK _ _ _ _ (fun e=>hd (by rw[hdd,e]))
      ·rfl
     ·rfl
    rw[this,this,hs]
theorem lq {u:Up} {r:Nat} : ∀ {g g':Nat→Option aP},(g r=g' r→bo g u r=bo g' u r)∧(r ∉ u.map (·.1)→bo g u r=g r):=by
 induction u with
 | nil=>exact fun {g g'}=>⟨fun h=>h,fun _=>rfl⟩
 | cons p u ih =>
  intro g g'
  obtain⟨k,x⟩:=p
  constructor
  ·intro h
   refine(ih (g:=fun s=>if s=k then x else g s) (g':=fun s=>if s=k then x else g' s)).1 ?_
   by_cases hk:r=k
   ·rw[S6 hk,S6 hk]
   ·rw[S4 hk,S4 hk,h]
  ·intro h
   rw[Y4,U7] at h
   show bo (fun s=>if s=k then x else g s) u r=g r
   rw[(ih (g:=fun s=>if s=k then x else g s) (g':=g)).2 (fun hh=>h (.inr hh)),S4 (fun e=>h (.inl e))]
theorem FM {S S':Nat→Bool} {r:Nat} : ∀ {T:List Tr} {g g':Nat→Option aP},(∀ τ∈T,r∈τ.u.map (·.1)→S τ.i=S' τ.i)→g r=g' r→gI S T g r=gI S' T g' r
 | [],_,_,_,h=>h
 | τ :: T,g,g',hT,hs=>by
  unfold gI
  refine FM (fun τ hτ=>hT τ (T8 _ hτ)) ?_
  by_cases hd:r∈τ.u.map (·.1)
  ·rw[hT τ (by simp) hd]
   split
   ·exact lq.1 hs
   ·exact hs
  ·have : ∀(S:Nat→Bool) (g:Nat→Option aP),(if S τ.i=true then bo g τ.u else g) r=g r:=by
    intro S g
    split
    ·exact(lq (g':=g)).2 hd
    ·rfl
   rw[this,this,hs]
theorem LY {sl:List SV} {d e:Option Nat} {v u:SV} (h : ∀ t,d=some t→e≠some t):kb (kb sl d v) e u=kb (kb sl e u) d v:=by
 cases d with
 | none=>cases e <;> rfl
 | some d=>cases e with
  | none=>rfl
  | some e=>exact FL sl d e v u (fun hh=>h d rfl (by rw[hh]))
theorem LZ {g:Nat→Option aP} {u u':Up} (h : ∀ r,r∈u.map (·.1)→r ∉ u'.map (·.1)):bo (bo g u) u'=bo (bo g u') u:=by
 funext r
 by_cases h1:r∈u.map (·.1)
 ·rw[(lq (g':=g)).2 (h r h1)]
  exact lq.1 (((lq (g':=g)).2 (h r h1)).symm)
 ·rw[(lq (u:=u) (g':=g)).2 h1]
  exact lq.1 ((lq (u:=u) (g':=g)).2 h1)
theorem AZ {S:Nat→Bool} {τ:Tr} (hS:S τ.i=false) : ∀ {T:List Tr} {sl:List SV},τ∈T→(T.map (·.i)).Nodup→(∀ τ'∈T,S τ'.i=true→τ.i < τ'.i → ∀ t,τ.o.dst=some t→τ'.o.dst≠some t)→T.Pairwise (fun x y=>x.i < y.i) →
  fT (fun j=>S j || j == τ.i) T sl=kb (fT S T sl) τ.o.dst τ.v
 | [],_,h,_,_,_=>by simp at h
 | τ0 :: T,sl,hm,hnd,hc,hp=>by
  rw[Y4,bp_] at hnd
  rw[V7] at hp
  unfold fT
  rcases U7.1 hm with rfl | hm'
  ·have e1 : ∀ τ'∈T,(S τ'.i || τ'.i == τ.i)=S τ'.i:=fun τ' hτ'=>by
    have:τ'.i≠τ.i:=fun e=>hnd.1 (by rw[←e]; exact bb_ (f:=(·.i)) hτ')
    simp[this]
   rw[wF e1,S6 (by simp),S4 (by rw[hS]; simp)]
   have key : ∀(T:List Tr) (sl:List SV),(∀ τ'∈T,S τ'.i=true → ∀ t,τ.o.dst=some t→τ'.o.dst≠some t)→fT S T (kb sl τ.o.dst τ.v)=kb (fT S T sl) τ.o.dst τ.v:=by
    intro T
    induction T with
    | nil=>intro sl _; rfl
    | cons τ' T ih =>
     intro sl h
     unfold fT
     split
     ·rename_i hs
      rw[LY (h τ' (by simp) hs)]
      exact ih _ (fun τ hτ=>h τ (T8 _ hτ))
     ·exact ih _ (fun τ hτ=>h τ (T8 _ hτ))
   exact key T sl (fun τ' hτ' hs=>hc τ' (T8 _ hτ') hs (hp.1 τ' hτ'))
  ·have hne:τ0.i≠τ.i:=fun e=>hnd.1 (by rw[e]; exact bb_ (f:=(·.i)) hm')
   have:(S τ0.i || τ0.i == τ.i)=S τ0.i:=by simp[hne]
   rw[this]
   exact AZ hS hm' hnd.2 (fun τ' hτ'=>hc τ' (T8 _ hτ')) hp.2
theorem A0 {S:Nat→Bool} {τ:Tr} (hS:S τ.i=false) : ∀ {T:List Tr} {g:Nat→Option aP},τ∈T→(T.map (·.i)).Nodup→(∀ τ'∈T,S τ'.i=true→τ.i < τ'.i → ∀ r,r∈τ.u.map (·.1)→r ∉ τ'.u.map (·.1))→T.Pairwise (fun x y=>x.i < y.i) →
  gI (fun j=>S j || j == τ.i) T g=bo (gI S T g) τ.u
 | [],_,h,_,_,_=>by simp at h
 | τ0 :: T,g,hm,hnd,hc,hp=>by
  rw[Y4,bp_] at hnd
  rw[V7] at hp
  unfold gI
  rcases U7.1 hm with rfl | hm'
  ·have e1 : ∀ τ'∈T,(S τ'.i || τ'.i == τ.i)=S τ'.i:=fun τ' hτ'=>by
    have:τ'.i≠τ.i:=fun e=>hnd.1 (by rw[←e]; exact bb_ (f:=(·.i)) hτ')
    simp[this]
   rw[wG e1,S6 (by simp),S4 (by rw[hS]; simp)]
   have key : ∀(T:List Tr) (g:Nat→Option aP),(∀ τ'∈T,S τ'.i=true → ∀ r,r∈τ.u.map (·.1)→r ∉ τ'.u.map (·.1))→gI S T (bo g τ.u)=bo (gI S T g) τ.u:=by
    intro T
    induction T with
    | nil=>intro g _; rfl
    | cons τ' T ih =>
     intro g h
     unfold gI
     split
     ·rename_i hs
      rw[LZ (h τ' (by simp) hs)]
      exact ih _ (fun τ hτ=>h τ (T8 _ hτ))
     ·exact ih _ (fun τ hτ=>h τ (T8 _ hτ))
   exact key T g (fun τ' hτ' hs=>hc τ' (T8 _ hτ') hs (hp.1 τ' hτ'))
  ·have hne:τ0.i≠τ.i:=fun e=>hnd.1 (by rw[e]; exact bb_ (f:=(·.i)) hm')
   have:(S τ0.i || τ0.i == τ.i)=S τ0.i:=by simp[hne]
   rw[this]
   exact A0 hS hm' hnd.2 (fun τ' hτ'=>hc τ' (T8 _ hτ')) hp.2
section
variable {P:Program} {E:ce} {call:(I:ap)→List SV→aB→Option (I.sh.den×I.bx.den)} {w0:World} {X:Nat→Prop} {Pr0:Nat→Nat→Prop}
variable {R:Type} {K:St→Option R} {z:R}
def N4 (E:ce) (call:(I:ap)→List SV→aB→Option (I.sh.den×I.bx.den)) (all:Array Oper) (base:Nat) (τ:Tr) (sl:List SV) (g:Nat→Option aP):Prop :=
 fy all τ.o sl τ.ran∧(τ.ran=true → ∃ res,cf E call τ.o ((cU τ.o.op).map (ev sl)) res (base+64*τ.i) cd=some (τ.v,τ.u) ∧ ∀ r x,ay res r=some x→r∈τ.see∧g r=some x)∧(τ.ran=false→τ.v = .tup []∧τ.u=[])
theorem FN {all:Array Oper} {base:Nat} : ∀ {l:List (Nat×Oper)} {g:List wu} {σ:St},ch E call all true base l g σ K=some z→(l.map (·.1)).Pairwise (· < ·) →
  ∃(T:List Tr) (σ':St),T.map (fun τ=>(τ.i,τ.o))=l∧(∀ τ∈T,N4 E call all base τ (fT (fun j=>decide (j < τ.i)) T σ.slots) (gI (fun j=>decide (j < τ.i)) T (ay σ.res)))∧σ'.slots=fT (fun _=>true) T σ.slots∧ay σ'.res=gI (fun _=>true) T (ay σ.res) ∧
   σ'.n0=σ.n0∧σ'.nx=σ.nx∧K σ'=some z∧xX all (Region.before all) ((T.map i8).reverse++g)=true∧Cl all=true
 | [],g,σ,h,_=>by
  unfold ch at h
  simp only at h
  split at h
  ·rename_i h1 h2
   exact⟨[],σ,rfl,fun τ hτ=>by simp at hτ,rfl,rfl,rfl,rfl,h,h1,h2⟩
  ·cases h
 | (i,o) :: l,g,σ,h,hp=>by
  obtain⟨ran,v,u,see,hg,hran,hskip,hrest⟩:=yN h
  rw[Y4,V7] at hp
  obtain⟨T,σ',h1,h2,h3,h4,h5,h6,h7,h8,h9⟩:=FN hrest hp.2
  have hT : ∀ τ∈T,i < τ.i:=by
   intro τ hτ
   have:(τ.i,τ.o)∈l:=by
    rw[←h1]
    exact bb_ (f:=fun τ:Tr=>(τ.i,τ.o)) hτ
   exact hp.1 _ (bb_ (f:=(·.1)) this)
  have hres:ay (kT σ o.dst v u).res=bo (ay σ.res) u:=nq
  refine⟨⟨i,o,v,u,see,ran⟩ :: T,σ',by rw[Y4,h1],?_,?_,?_,h5,h6,h7,?_,h9⟩
  ·intro τ hτ
   rcases U7.1 hτ with rfl | hτ
   ·have hno : ∀ τ'∈T,decide (τ'.i < i)=false:=fun τ' hτ'=>by
     have:=hT τ' hτ'
     simp
     omega
    have e1:fT (fun j=>decide (j < i)) (⟨i,o,v,u,see,ran⟩ :: T) σ.slots=σ.slots:=by
     unfold fT
     rw[S4 (by simp)]
     exact zC hno
    have e2:gI (fun j=>decide (j < i)) (⟨i,o,v,u,see,ran⟩ :: T) (ay σ.res)=ay σ.res:=by
     unfold gI
     rw[S4 (by simp)]
     exact zD hno
    show N4 E call all base ⟨i,o,v,u,see,ran⟩ (fT (fun j=>decide (j < i)) (⟨i,o,v,u,see,ran⟩ :: T) σ.slots) (gI (fun j=>decide (j < i)) (⟨i,o,v,u,see,ran⟩ :: T) (ay σ.res))
    rw[e1,e2]
    exact⟨hg,fun hr=>⟨_,(hran hr).1,fun r x hx=>lS hx⟩,hskip⟩
   ·have hlt:=hT τ hτ
    have:=h2 τ hτ
    rw[uq,hres] at this
    unfold fT gI
    rw[S6 (by simp[hlt]),S6 (by simp[hlt])]
    exact this
  ·rw[h3,uq]
   rfl
  ·rw[h4,hres]
   rfl
  ·rw[Y4,List.reverse_cons,List.append_assoc]
   exact h8
theorem FO {all:Array Oper} {bf:Array Nat} : ∀ {L:List wu},xX all bf L=true→L.Pairwise fun b a=>rf all a b=true→(bf.getD b.i 0).testBit a.i=true
 | [],_ => .nil
 | b :: L,h=>by
  simp only[xX,S8,Z2] at h
  refine V7.2 ⟨fun a ha hc => ?_,FO h.2⟩
  have:=h.1 a ha
  rw[hc] at this
  simpa using this
theorem mO {l m:List Nat} {r:Nat} (h1:r∈l) (h2:r∈m):ic l m=true:=by
 unfold ic
 rw[List.any_eq_true]
 refine⟨r,h1,?_⟩
 cases hh:ud m r with
 | true=>rfl
 | false=>exact V2 h2 (sV hh)
theorem N5 {sl sl':List SV} {x:Operand} (h : ∀ t,x = .tmp t→eW sl t=eW sl' t):ev sl x=ev sl' x:=by
 cases x with
 | tmp t=>exact h t rfl
 | _=>rfl
theorem J5 {o:Oper} {t:Nat} (h:Operand.tmp t∈cU o.op):t∈LB o:=List.mem_filterMap.2 ⟨_,h,rfl⟩
theorem DE {α:Type} {p q:α→Bool} : ∀ {l:List α},(∀ x∈l,q x=true→p x=true)→(∃ x∈l,p x=true∧q x=false)→(l.filter q).length < (l.filter p).length
 | [],_,h=>by
  obtain⟨x,hx,_⟩:=h
  simp at hx
 | a :: l,hq,⟨x,hx,h1,h2⟩=>by
  have hle : ∀ l:List α,(∀ x∈l,q x=true→p x=true)→(l.filter q).length≤(l.filter p).length:=by
   intro l
   induction l with
   | nil=>intro _; simp
   | cons a l ih =>
    intro h
    have:=ih (fun x hx=>h x (T8 _ hx))
    simp only[List.filter_cons]
    by_cases ha:q a=true
    ·rw[S6 ha,S6 (h a (by simp) ha)]
     simpa using this
    ·rw[S4 ha]
     split
     ·simp only[T3]; omega
     ·exact this
  have hl:=hle l (fun x hx=>hq x (T8 _ hx))
  simp only[List.filter_cons]
  rcases U7.1 hx with rfl | hx
  ·rw[S4 (by rw[h2]; simp),S6 h1]
   simp only[T3]
   omega
  ·have:=DE (l:=l) (fun x hx=>hq x (T8 _ hx)) ⟨x,hx,h1,h2⟩
   by_cases ha:q a=true
   ·rw[S6 ha,S6 (hq a (by simp) ha)]
    simpa using this
   ·rw[S4 ha]
    split
    ·simp only[T3]; omega
    ·exact this
structure Sb (all:Array Oper) (base:Nat) (T:List Tr) (σ:St) (γ0:Nat→Option G) (listed:Array Bool) (w0:World) (X:Nat→Prop) (Pr0:Nat→Nat→Prop) (γ:Nat→Option G) (Pr:Nat→Nat→Prop) (a:Act) (w:World):Prop where
 size:listed.size=all.size
 closed : ∀ b o,listed.getD b false=true→all[b]? = some o → ∀ e∈o.after,Region.binds .any e=true→listed.getD e.on false=true
 inv:bn w0 X Pr0 (fT (fun j=>listed.getD j false) T σ.slots) (gI (fun j=>listed.getD j false) T (ay σ.res)) γ Pr a w
 low : ∀ r,r < base→γ r=γ0 r
 free : ∀ i,listed.getD i false=false → ∀ r,base+64*i≤r→r < base+64*i+64→γ r=none
theorem I4 {all:Array Oper} {base:Nat} {Q:Exit→Act→World→Prop} (hS:ig (kF w0 X) P E call) (hE:d7 P E) {γ0:Nat→Option G} {σ:St} {T:List Tr} (hT:T.map (fun τ=>(τ.i,τ.o))=(aq_ all.size).zip all.toList)
  (hok : ∀ τ∈T,N4 E call all base τ (fT (fun j=>decide (j < τ.i)) T σ.slots) (gI (fun j=>decide (j < τ.i)) T (ay σ.res))) (hord:xX all (Region.before all) (T.map i8).reverse=true) (hedge:Cl all=true)
  (hQ : ∀ γ' Pr' a' w',bn w0 X Pr0 (fT (fun _=>true) T σ.slots) (gI (fun _=>true) T (ay σ.res)) γ' Pr' a' w'→(∀ r,r < base→γ' r=γ0 r)→(∀ r,base+64*all.size≤r→γ' r=none)→Q .normal a' w') :
  ∀(fuel:Nat) (listed:Array Bool) (γ:Nat→Option G) (Pr:Nat→Nat→Prop) (a:Act) (w:World),Sb all base T σ γ0 listed w0 X Pr0 γ Pr a w→((aq_ all.size).filter fun j => !listed.getD j false).length≤fuel→wpAny P .any all Q fuel listed a w:=by
 have hTi:T.map (·.i)=aq_ all.size:=by
  have:=T4 (List.map (·.1)) hT
  rw[List.map_map,(range_zip' all).2] at this
  exact this
 have hTo : ∀ τ∈T,all[τ.i]? = some τ.o:=by
  intro τ hτ
  have:(τ.i,τ.o)∈(aq_ all.size).zip all.toList:=by
   rw[←hT]
   exact bb_ (f:=fun τ:Tr=>(τ.i,τ.o)) hτ
  exact(range_zip' all).1 _ this
 have hnd:(T.map (·.i)).Nodup:=by rw[hTi]; exact List.nodup_range
 have hpw:T.Pairwise fun x y=>x.i < y.i:=by
  have:(T.map (·.i)).Pairwise (· < ·):=by rw[hTi]; exact List.pairwise_lt_range
  exact ba_.1 this
 have hlt : ∀ τ∈T,τ.i < all.size:=fun τ hτ=>(V8.1 (hTo τ hτ)).1
 have hall : ∀ i,i < all.size → ∃ τ∈T,τ.i=i:=by
  intro i hi
  have:i∈T.map (·.i):=by rw[hTi]; exact List.mem_range.2 hi
  obtain⟨τ,h1,h2⟩:=List.mem_map.1 this
  exact⟨τ,h1,h2⟩
 have hcl : ∀ τ∈T,∀ τ'∈T,τ.i < τ'.i→rf all (i8 τ) (i8 τ')=true→((Region.before all).getD τ'.i 0).testBit τ.i=true:=by
  have h1:=FO hord
  rw[List.pairwise_reverse,ba_] at h1
  have h2:T.Pairwise fun x y=>x.i < y.i→rf all (i8 x) (i8 y)=true→((Region.before all).getD y.i 0).testBit x.i=true:=h1.imp fun h _ hc=>h hc
  intro τ hτ τ' hτ'
  by_cases he:τ=τ'
  ·subst he
   intro h
   omega
  ·rcases pair_of hpw h2 hτ hτ' he with h | ⟨h3,_⟩
   ·exact h
   ·intro h
    omega
 have hdone : ∀(listed:Array Bool) (γ:Nat→Option G) (Pr:Nat→Nat→Prop) (a:Act) (w:World),Sb all base T σ γ0 listed w0 X Pr0 γ Pr a w→(∀ j,j < all.size→listed.getD j false=true)→Q .normal a w:=by
  intro listed γ Pr a w hM hl
  have e : ∀ τ∈T,listed.getD τ.i false=true:=fun τ hτ=>hl _ (hlt τ hτ)
  have h1:=hM.inv
  rw[wF (S':=fun _=>true) e,wG (S':=fun _=>true) e] at h1
  refine hQ γ Pr a w h1 hM.low fun r hr => ?_
  have hge:all.size≤(r - base) / 64:=(Nat.le_div_iff_mul_le (by omega)).2 (by omega)
  have hun:listed.getD ((r - base) / 64) false=false:=by
   rw[Y1,bj_ (by rw[hM.size]; exact hge)]
   rfl
  have hdm:=Nat.div_add_mod (r - base) 64
  have hml:=Nat.mod_lt (r - base) (show 0 < 64 by omega)
  exact hM.free _ hun r (by omega) (by omega)
 have hback : ∀(j:Nat) (o:Oper),all[j]? = some o → ∀ e∈o.after,Region.binds .any e=true→e.on < j:=by
  intro j o ho e he hb
  have hj:j < all.size:=(V8.1 ho).1
  have:=(Z2.1 hedge) j (List.mem_range.2 hj)
  rw[ho] at this
  have:=(Array.all_eq_true_iff_forall_mem.1 this) e he
  rw[hb] at this
  simpa[Nat.blt_eq] using this
 intro fuel
 induction fuel with
 | zero =>
  intro listed γ Pr a w hM hf
  have hl : ∀ j,j < all.size→listed.getD j false=true:=by
   intro j hj
   cases hh:listed.getD j false with
   | true=>rfl
   | false =>
    have hmem:j∈(aq_ all.size).filter fun j => !listed.getD j false:=List.mem_filter.2 ⟨List.mem_range.2 hj,by rw[hh]; rfl⟩
    rw[W8 (Nat.le_zero.1 hf)] at hmem
    simp at hmem
  refine⟨?_,hdone listed γ Pr a w hM hl⟩
  apply List.eq_nil_iff_forall_not_mem.2
  intro j hj
  obtain⟨h1,o,ho,_⟩:=mem_ready.1 hj
  have hjl:j < all.size:=(V8.1 ho).1
  have:=hl j hjl
  rw[Y1,X9 (by rw[hM.size]; exact hjl)] at this h1
  simp only[Z6] at this h1
  rw[this] at h1
  cases h1
 | succ fuel ih =>
  intro listed γ Pr a w hM hf
  have hgetD : ∀ j,j < all.size→listed.getD j true=listed.getD j false:=by
   intro j hj
   rw[Y1,Y1,X9 (by rw[hM.size]; exact hj)]
   rfl
  refine⟨fun hr=>hdone listed γ Pr a w hM ?_,fun i hi => ?_⟩
  ·intro j
   induction j using Nat.strongRecOn with
   | _ j ihj =>
    intro hj
    cases hh:listed.getD j false with
    | true=>rfl
    | false =>
     have:j∈Region.ready .any all listed:=mem_ready.2 ⟨by rw[hgetD j hj,hh],all[j],X9 hj,fun e he hb=>by
      have hlt':=hback j _ (X9 hj) e he hb
      exact ihj e.on hlt' (by omega)⟩
     rw[hr] at this
     simp at this
  ·obtain⟨h1,o,ho,hpre⟩:=mem_ready.1 hi
   have hil:i < all.size:=(V8.1 ho).1
   obtain⟨τ,hτ,rfl⟩:=hall i hil
   have hoτ:=hTo τ hτ
   rw[ho] at hoτ
   cases hoτ
   have hSi:listed.getD τ.i false=false:=by rw[←hgetD _ hil]; exact h1
   have hpast : ∀ τ'∈T,τ'.i < τ.i→rf all (i8 τ') (i8 τ)=true→listed.getD τ'.i false=true:=by
    intro τ' hτ' hl hc
    exact DC (S:=fun j=>listed.getD j false=true) hM.closed τ.i τ'.i (fun o' ho' e he hb=>by
     rw[ho] at ho'
     cases ho'
     exact hpre e he hb) (hcl τ' hτ' τ hτ hl hc)
   have hnext : ∀ τ'∈T,τ.i < τ'.i→rf all (i8 τ) (i8 τ')=true→listed.getD τ'.i false=false:=by
    intro τ' hτ' hl hc
    cases hh:listed.getD τ'.i false with
    | false=>rfl
    | true =>
     have:=DC (S:=fun j=>listed.getD j false=true) hM.closed τ'.i τ.i (fun o' ho' e he hb=>hM.closed τ'.i o' hh ho' e he hb) (hcl τ hτ τ' hτ' hl hc)
     simp only[hSi] at this
     cases this
   have hclash : ∀(x y:Tr),x∈T→y∈T→rf all (i8 x) (i8 y)=(ic x.o.dst.toList (y.o.dst.toList++jH all y.o) || ic y.o.dst.toList (jH all x.o) || ic (x.u.map (·.1)) (y.see++y.u.map (·.1)) || ic (y.u.map (·.1)) x.see):=by
    intro x y hx hy
    unfold rf
    rw[show(i8 x).i=x.i from rfl,show(i8 y).i=y.i from rfl,hTo x hx,hTo y hy]
    rfl
   have hsl : ∀ t,t∈jH all τ.o→eW (fT (fun j=>listed.getD j false) T σ.slots) t=eW (fT (fun j=>decide (j < τ.i)) T σ.slots) t:=by
    intro t ht
    refine AY (fun τ' hτ' hd => ?_) rfl rfl
    show listed.getD τ'.i false=decide (τ'.i < τ.i)
    rcases Nat.lt_trichotomy τ'.i τ.i with h | h | h
    ·rw[hpast τ' hτ' h (by rw[hclash τ' τ hτ' hτ,hd]; simp[mO (l:=[t]) (m:=τ.o.dst.toList++jH all τ.o) (r:=t) (by simp) (al_ _ ht)])]
     simp[h]
    ·rw[h,hSi]
     simp
    ·rw[hnext τ' hτ' h (by rw[hclash τ τ' hτ hτ',hd]; simp[mO (l:=[t]) (m:=jH all τ.o) (r:=t) (by simp) ht])]
     simp
     omega
   have hgl : ∀ r,r∈τ.see→gI (fun j=>listed.getD j false) T (ay σ.res) r=gI (fun j=>decide (j < τ.i)) T (ay σ.res) r:=by
    intro r hr
    refine FM (fun τ' hτ' hd => ?_) rfl
    show listed.getD τ'.i false=decide (τ'.i < τ.i)
    rcases Nat.lt_trichotomy τ'.i τ.i with h | h | h
    ·rw[hpast τ' hτ' h (by rw[hclash τ' τ hτ' hτ]; simp[mO (m:=τ.see++τ.u.map (·.1)) hd (ap_ _ hr)])]
     simp[h]
    ·rw[h,hSi]
     simp
    ·rw[hnext τ' hτ' h (by rw[hclash τ τ' hτ hτ']; simp[mO (m:=τ.see) hd hr])]
     simp
     omega
   obtain⟨hg,hran,hskip⟩:=hok τ hτ
   have hargs:(cU τ.o.op).map (ev (fT (fun j=>listed.getD j false) T σ.slots))=(cU τ.o.op).map (ev (fT (fun j=>decide (j < τ.i)) T σ.slots)):=by
    apply List.map_congr_left
    intro x hx
    refine N5 fun t ht=>hsl t ?_
    subst ht
    exact ap_ _ (J5 hx)
   have hg':fy all τ.o (fT (fun j=>listed.getD j false) T σ.slots) τ.ran:=by
    unfold fy at hg ⊢
    split at hg
    ·exact hg
    ·rename_i j want hgd
     obtain⟨d,h2,h3⟩:=hg
     refine⟨d,h2,?_⟩
     rw[hsl d ?_]
     ·exact h3
     ·unfold jH
      rw[hgd]
      refine al_ _ ?_
      simp only[h2]
      simp
   obtain⟨res,hcore,hknow⟩ : ∃ res,(τ.ran=true→cf E call τ.o ((cU τ.o.op).map (ev (fT (fun j=>listed.getD j false) T σ.slots))) res (base+64*τ.i) cd=some (τ.v,τ.u)) ∧ ∀ r x,ay res r=some x→gI (fun j=>listed.getD j false) T (ay σ.res) r=some x:=by
    cases hr:τ.ran with
    | false=>exact⟨[],fun h=>(by cases h),fun r x h=>(by simp[ay] at h)⟩
    | true =>
     obtain⟨res,h2,h3⟩:=hran hr
     refine⟨res,fun _=>by rw[hargs]; exact h2,fun r x hx => ?_⟩
     obtain⟨h4,h5⟩:=h3 r x hx
     rw[hgl r h4]
     exact h5
   refine FJ hS hE hM.inv ho hg' hcore hknow hskip (hM.free τ.i hSi) ?_
   intro a' w' γ' Pr' hI' hγ'
   have hset : ∀ j,(listed.setIfInBounds τ.i true).getD j false=(listed.getD j false || j == τ.i):=by
    intro j
    by_cases hj:τ.i=j
    ·subst hj
     have:τ.i < listed.size:=by rw[hM.size]; exact hil
     simp[this]
    ·rw[getD_set_ne false hj]
     have:(j == τ.i)=false:=by
      rw[beq_eq_false_iff_ne]
      exact fun e=>hj e.symm
     rw[this,Bool.or_false]
   refine ih (listed.setIfInBounds τ.i true) γ' Pr' a' w' ⟨?_,?_,?_,?_,?_⟩ ?_
   ·rw[Array.size_setIfInBounds]
    exact hM.size
   ·intro b o' hb ho' e he hbd
    rw[hset] at hb
    refine getD_set_true ?_
    by_cases hbi:b=τ.i
    ·subst hbi
     rw[ho] at ho'
     cases ho'
     exact hpre e he hbd
    ·have hb':listed.getD b false=true:=by simpa[hbi] using hb
     exact hM.closed b o' hb' ho' e he hbd
   ·have e1:(fun j=>(listed.setIfInBounds τ.i true).getD j false)=fun j=>listed.getD j false || j == τ.i:=funext hset
    rw[e1]
    rw[AZ (S:=fun j=>listed.getD j false) hSi hτ hnd (fun τ' hτ' hs hlt' t hd hd'=>by
     have hm1:ic (some t).toList ((some t).toList++jH all τ'.o)=true:=mO (r:=t) (by simp) (by simp)
     have:=hnext τ' hτ' hlt' (by rw[hclash τ τ' hτ hτ',hd,hd',hm1]; rfl)
     rw[this] at hs
     cases hs) hpw]
    rw[A0 (S:=fun j=>listed.getD j false) hSi hτ hnd (fun τ' hτ' hs hlt' r hr hr'=>by
     have:=hnext τ' hτ' hlt' (by rw[hclash τ τ' hτ hτ']; simp[mO (m:=τ'.see++τ'.u.map (·.1)) hr (al_ _ hr')])
     rw[this] at hs
     cases hs) hpw]
    exact hI'
   ·intro r hr
    rw[hγ' r (by rintro⟨h2,_⟩; omega)]
    exact hM.low r hr
   ·intro j hj r h2 h3
    rw[hset] at hj
    simp only[cl_,beq_eq_false_iff_ne] at hj
    have hne:=hj.2
    rw[hγ' r (by
     rintro⟨h4,h5⟩
     rcases Nat.lt_or_gt_of_ne hne with h | h <;> omega)]
    exact hM.free j hj.1 r h2 h3
   ·have:=DE (l:=aq_ all.size) (p:=fun j => !listed.getD j false) (q:=fun j => !(listed.setIfInBounds τ.i true).getD j false) (fun x _ hx=>by
     rw[hset] at hx
     simp only[az_,cl_] at hx ⊢
     exact hx.1) ⟨τ.i,List.mem_range.2 hil,by rw[hSi]; rfl,by rw[hset]; simp⟩
    omega
where
 range_zip' (ops:Array Oper):(∀ p∈(aq_ ops.size).zip ops.toList,ops[p.1]? = some p.2)∧((aq_ ops.size).zip ops.toList).map (·.1)=aq_ ops.size:=by
  constructor
  ·intro p hp
   obtain⟨k,hk,rfl⟩:=Z9 hp
   rw[List.getElem_zip]
   simp only[List.getElem_range]
   rw[←Y6]
   exact T9 _
  ·exact List.map_fst_zip (by simp)
 pair_of {R1 R2:Tr→Tr→Prop} {T:List Tr} (h1:T.Pairwise R1) (h2:T.Pairwise R2) {x y:Tr} (hx:x∈T) (hy:y∈T) (hne:x≠y):R2 x y∨(R1 y x∧R2 y x):=by
  induction T with
  | nil=>simp at hx
  | cons t T ih =>
   rw[V7] at h1 h2
   rcases U7.1 hx with rfl | hx' <;> rcases U7.1 hy with rfl | hy'
   ·exact V2 rfl hne
   ·exact .inl (h2.1 y hy')
   ·exact .inr ⟨h1.1 x hx',h2.1 x hx'⟩
   ·exact ih h1.2 h2.2 hx' hy'
theorem N6 {all:Array Oper} {id:Nat} {base:Nat} {Q:Exit→Act→World→Prop} (hm:P.follows .mixedOrders=true) (hS:ig (kF w0 X) P E call) (hE:d7 P E) {γ0:Nat→Option G}
  {σ:St} {γ:Nat→Option G} {Pr:Nat→Nat→Prop} {a:Act} {w:World} (h:ch E call all true base ((aq_ all.size).zip all.toList) [] σ K=some z)
   (hI:bn w0 X Pr0 σ.slots (ay σ.res) γ Pr a w) (hlow : ∀ r,r < base→γ r=γ0 r) (hhigh : ∀ r,base≤r→γ r=none)
   (hQ : ∀ σ' γ' Pr' a' w',K σ'=some z→bn w0 X Pr0 σ'.slots (ay σ'.res) γ' Pr' a' w'→(∀ r,r < base→γ' r=γ0 r)→(∀ r,base+64*all.size≤r→γ' r=none)→σ'.n0=σ.n0→σ'.nx=σ.nx→Q .normal a' w') :
   (Code.region id all true).wp P Q a w:=by
 obtain⟨T,σ',h1,h2,h3,h4,h5,h6,h7,h8,h9⟩:=FN h (by rw[(I4.range_zip' all).2]; exact List.pairwise_lt_range)
 rw[W9] at h8
 refine wp_region_any hm ?_
 have hnone : ∀ j,(Array.replicate all.size false).getD j false=false:=by
  intro j
  rw[Y1]
  by_cases hj:j < all.size
  ·simp[hj]
  ·rw[bj_ (by simpa using hj)]
   rfl
 refine I4 hS hE h1 h2 h8 h9 (fun γ' Pr' a' w' hi hl hh=>hQ σ' γ' Pr' a' w' h7 (by rw[h3,h4]; exact hi) hl hh h5 h6) all.size _ γ Pr a _ ⟨by simp,?_,?_,hlow,fun i _ r hr _=>hhigh r (by omega)⟩ ?_
 ·intro b o hb
  rw[hnone] at hb
  cases hb
 ·rw[zC (fun τ _=>hnone τ.i),zD (fun τ _=>hnone τ.i)]
  exact⟨eY (fun _ _ _ h=>h) (fun _ _ h=>h) hI.slots,hI.defers,hI.gs,hI.wfs,hI.res,hI.apart,hI.loose,hI.where_,hI.frame,hI.size,hI.os,hI.tape,hI.output,hI.prIn,hI.prOld,hI.pr0⟩
 ·refine W7 (List.length_filter_le _ _) ?_
  simp
end
end Go.Proofs.YtfffplonjaigkaaGreatDoor.Abs
namespace Go.Proofs.YtfffplonjaigkaaGreatDoor.Abs
open Go Go.RowKit
theorem rT {P:Program} {c:Code} {Q Q':Exit→Act→World→Prop} (hq : ∀ e a w,Q e a w→Q' e a w) : ∀ {n m:Nat},n≤m → ∀ {a:Act} {w:World},Code.rounds P c Q n a w→Code.rounds P c Q' m a w
 | 0,_,_,_,_,h=>h.elim
 | n+1,0,hle,_,_,_=>V2 hle (by omega)
 | n+1,m+1,hle,a,w,h=>by
  refine Code.wp_mono (fun e a w h => ?_) (show c.wp P (Exit.then (Code.rounds P c Q n) Q) a w from h)
  cases e <;> first | exact rT hq (Nat.le_of_succ_le_succ hle) h | exact hq _ _ _ h
def cc (P:Program) (n:Nat):List Fr→(Exit→Act→World→Prop)→Exit→Act→World→Prop
 | [],Q=>Q
 | .seq b :: S,Q=>Exit.then (b.wp P (cc P n S Q)) (cc P n S Q)
 | .block id :: S,Q=>Exit.inBlock id (cc P n S Q)
 | .loop b :: S,Q=>Exit.then (Code.rounds P b (cc P n S Q) n) (cc P n S Q)
section
variable {P:Program} {E:ce} {Q:Exit→Act→World→Prop}
theorem de {n m:Nat} (h:n≤m) : ∀(S:List Fr) {e:Exit} {a:Act} {w:World},cc P n S Q e a w→cc P m S Q e a w
 | [],_,_,_,hh=>hh
 | .seq b :: S,e,a,w,hh=>by
  cases e <;> first | exact Code.wp_mono (fun _ _ _ h'=>de h S h') hh | exact de h S hh
 | .block id :: S,e,a,w,hh=>by
  cases e with
  | exit j =>
   show if j=id then cc P m S Q .normal a w else cc P m S Q (.exit j) a w
   have hh':if j=id then cc P n S Q .normal a w else cc P n S Q (.exit j) a w:=hh
   split at hh'
   ·rename_i hj
    rw[S6 hj]
    exact de h S hh'
   ·rename_i hj
    rw[S4 hj]
    exact de h S hh'
  | _=>exact de h S hh
 | .loop b :: S,e,a,w,hh=>by
  cases e <;> first | exact rT (fun _ _ _ h'=>de h S h') h hh | exact de h S hh
theorem kG {n:Nat} : ∀(S:List Fr) {a:Act} {w:World},Q .ret a w→cc P n S Q .ret a w
 | [],_,_,h=>h
 | .seq b :: S,_,_,h=>kG S h
 | .block id :: S,_,_,h=>kG S h
 | .loop b :: S,_,_,h=>kG S h
theorem jN {n:Nat} {I:ap} {id:Nat} : ∀(S:List Fr) {S':List Fr} {a:Act} {w:World},uf I id S=some S'→cc P n S' Q .normal a w→cc P n S Q (.exit id) a w
 | [],_,_,_,h,_=>by simp[uf] at h
 | .seq b :: S,_,_,_,h,k=>jN (I:=I) S h k
 | .loop b :: S,_,_,_,h,k=>jN (I:=I) S h k
 | .block j :: S,S',a,w,h,k=>by
  show if id=j then cc P n S Q .normal a w else cc P n S Q (.exit id) a w
  unfold uf at h
  by_cases hj:j=id
  ·subst hj
   have:Y3 j j=true:=by simp
   rw[this] at h
   cases h
   rw[S6 rfl]
   exact k
  ·have:Y3 j id=false:=by
    cases hb:Y3 j id with
    | false=>rfl
    | true=>exact V2 (W2 hb) hj
   rw[this] at h
   rw[S4 (fun e=>hj e.symm)]
   exact jN (I:=I) S h k
end
structure At (w0:World) (X:Nat→Prop) (Pr0:Nat→Nat→Prop) (γ0:Nat→Option G) (σ:St) (γ:Nat→Option G) (Pr:Nat→Nat→Prop) (a:Act) (w:World):Prop where
 inv:bn w0 X Pr0 σ.slots (ay σ.res) γ Pr a w
 low : ∀ r,r < σ.n0→γ r=γ0 r
 high : ∀ r,σ.nx≤r→γ r=none
 le:σ.n0≤σ.nx
section
theorem L0 (r:Nat) (l:List Nat):l <+: xW r l:=by
 unfold xW
 split
 ·exact cz_
 ·exact List.prefix_append _ _
theorem nR {f:List Nat→SV→List Nat} (hf : ∀ l v,l <+: f l v) : ∀(vs:List SV) (l:List Nat),l <+: vs.foldl f l
 | [],l=>cz_
 | v :: vs,l=>(hf l v).trans (nR hf vs (f l v))
theorem nS : ∀(d:Nat) (v:SV) (l:List Nat),l <+: nj d v l
 | 0,_,_=>cz_
 | d+1,v,l=>by
  cases v <;> simp only[nj] <;> first | exact cz_ | exact L0 _ _ | exact nR (fun l v=>nS d v l) _ _
theorem lT (res:aB) : ∀(d j:Nat) (l:List Nat),l <+: pF res d j l
 | 0,_,_=>cz_
 | d+1,j,l=>by
  unfold pF
  split
  ·exact cz_
  ·split
   ·exact(nS 9 _ l).trans (lT res d (j+1) _)
   ·exact(nR (fun l v=>nS 1 v l) _ l).trans (lT res d (j+1) _)
   ·exact(nR (fun l v=>nS 1 v l) _ l).trans (lT res d (j+1) _)
   ·exact lT res d (j+1) l
theorem HT (res:aB) (vs:List SV) (l:List Nat):l <+: iP res vs l:=(nR (fun l v=>nS 9 v l) vs l).trans (lT res 40 0 _)
theorem mP : ∀ n,(lG n).length=n
 | 0=>rfl
 | n+1=>by simp[lG,mP n]
theorem FP : ∀ {n j:Nat},j < n→(lG n)[j]? = some j
 | n+1,j,h=>by
  unfold lG
  by_cases hj:j < n
  ·rw[X8 (by rw[mP]; exact hj)]
   exact FP hj
  ·have:j=n:=by omega
   subst this
   rw[Z3 (by rw[mP]; omega),mP]
   simp
variable {w0:World} {X:Nat→Prop} {Pr0:Nat→Nat→Prop} {γ0 γ:Nat→Option G} {σ:St} {Pr:Nat→Nat→Prop} {a:Act} {w:World}
theorem At.norm (h:At w0 X Pr0 γ0 σ γ Pr a w) (live:List Nat) : ∃ γ',At w0 X Pr0 γ0 (norm live σ) γ' Pr a w:=by
 have hpre:=HT σ.res (oq live 0 σ.slots) (lG σ.n0)
 have hlen:σ.n0≤(iP σ.res (oq live 0 σ.slots) (lG σ.n0)).length:=by
  have:=hpre.length_le
  rwa[mP] at this
 obtain⟨γ',h1,h2,h3⟩:=h.inv.norm live
 refine⟨γ',h1,?_,h2,hlen⟩
 intro r hr
 have hr':r < σ.n0:=hr
 rw[←h.low r hr']
 apply h3
 obtain⟨t,ht⟩:=hpre
 rw[←ht,X8 (by rw[mP]; exact hr')]
 exact FP hr'
end
theorem L1 (ops:Array Oper):(∀ p∈(aq_ ops.size).zip ops.toList,ops[p.1]? = some p.2)∧((aq_ ops.size).zip ops.toList).map (·.1)=aq_ ops.size:=by
 constructor
 ·intro p hp
  obtain⟨k,hk,rfl⟩:=Z9 hp
  rw[List.getElem_zip]
  simp only[List.getElem_range]
  rw[←Y6]
  exact T9 _
 ·exact List.map_fst_zip (by simp)
section
variable {P:Program} {E:ce}
def Fd (P:Program) (E:ce) (w0:World) (X:Nat→Prop) (k:Nat):Prop := ∀(I:ap) {R:Type} (K:St→Option R) (c:Code) (S:List Fr) (σ:St) (z:R),run E k I K c S σ=some z → ∀(Pr0:Nat→Nat→Prop) (γ0 γ:Nat→Option G) (Pr:Nat→Nat→Prop) (a:Act) (w:World) (Q:Exit→Act→World→Prop),
 At w0 X Pr0 γ0 σ γ Pr a w→(∀ σ' γ' Pr' a' w',K σ'=some z→At w0 X Pr0 γ0 σ' γ' Pr' a' w'→σ'.n0=σ.n0→Q .normal a' w'∧Q .ret a' w') → ∀ n,k≤n→c.wp P (cc P n S Q) a w
def J6 (P:Program) (E:ce) (w0:World) (X:Nat→Prop) (k:Nat):Prop := ∀(I:ap) {R:Type} (K:St→Option R) (S:List Fr) (σ:St) (z:R),pJ (run E k) I K S σ=some z → ∀(Pr0:Nat→Nat→Prop) (γ0 γ:Nat→Option G) (Pr:Nat→Nat→Prop) (a:Act) (w:World) (Q:Exit→Act→World→Prop),
 At w0 X Pr0 γ0 σ γ Pr a w→(∀ σ' γ' Pr' a' w',K σ'=some z→At w0 X Pr0 γ0 σ' γ' Pr' a' w'→σ'.n0=σ.n0→Q .normal a' w'∧Q .ret a' w') → ∀ n,k≤n→cc P n S Q .normal a w
theorem zE {I:ap} {R:Type} {K:St→Option R} {c:Code} {S:List Fr} {σ:St}:run E 0 I K c S σ=none:=rfl
theorem kV {k:Nat} {I:ap} {R:Type} {K:St→Option R} {c:Code} {S:List Fr} {σ:St}:run E (k+1) I K c S σ=ot E (run E k) I K c S σ:=rfl
theorem L2 {w0:World} {X:Nat→Prop} (k:Nat) (hR : ∀ j,j≤k→Fd P E w0 X j) : ∀ j,j≤k→J6 P E w0 X j:=by
 intro j
 induction j with
 | zero =>
  intro _ I R K S σ z h Pr0 γ0 γ Pr a w Q hA hQ n hn
  cases S with
  | nil=>exact(hQ σ γ Pr a w h hA rfl).1
  | cons f S=>cases f <;> (simp only[pJ,zE] at h; cases h)
 | succ j ih =>
  intro hj I R K S σ z h Pr0 γ0 γ Pr a w Q hA hQ n hn
  cases S with
  | nil=>exact(hQ σ γ Pr a w h hA rfl).1
  | cons f S =>
   cases f with
   | seq b=>exact hR (j+1) hj I K b S σ z h Pr0 γ0 γ Pr a w Q hA hQ n hn
   | block id =>
    simp only[pJ,kV,ot] at h
    exact ih (by omega) I K S σ z h Pr0 γ0 γ Pr a w Q hA hQ n (by omega)
   | loop b =>
    simp only[pJ,kV,ot] at h
    obtain⟨m,rfl⟩ : ∃ m,n=m+1:=⟨n - 1,by omega⟩
    have:=hR j (by omega) I K b (.loop b :: S) σ z h Pr0 γ0 γ Pr a w Q hA hQ m (by omega)
    show b.wp P (Exit.then (Code.rounds P b (cc P (m+1) S Q) m) (cc P (m+1) S Q)) a w
    refine Code.wp_mono (fun e a w h => ?_) this
    cases e <;> first | exact rT (fun _ _ _ h'=>de (by omega) S h') (T7 _) h | exact de (by omega) S h
theorem Qy {w0:World} {X:Nat→Prop} (hm:P.follows .mixedOrders=true) (hE:d7 P E) (k:Nat) (hC : ∀ j,j < k→ig (kF w0 X) P E (dH E (run E j))) : ∀ j,j≤k→Fd P E w0 X j:=by
 intro j
 induction j using Nat.strongRecOn with
 | _ j ih =>
  intro hj I R K c S σ z h Pr0 γ0 γ Pr a w Q hA hQ n hn
  cases j with
  | zero=>rw[zE] at h; cases h
  | succ j =>
   have hpop:J6 P E w0 X j:=L2 j (fun i hi=>ih i (by omega) (by omega)) j (T7 _)
   have hrun:Fd P E w0 X j:=ih j (by omega) (by omega)
   rw[kV] at h
   unfold ot at h
   split at h
   ·exact wp_skip (hpop I K S σ z h Pr0 γ0 γ Pr a w Q hA hQ n (by omega))
   ·rename_i id ops draw
    dsimp only at h
    have hE':d7 P {E with sub:=I.sub}:=⟨hE.ty,hE.by_,hE.fns,hE.eqs⟩
    have hC' : ∀ j,j < k→ig (kF w0 X) P {E with sub:=I.sub} (dH E (run E j)):=hC
    obtain⟨σ1,γ1,hA1,hn0,h1⟩ : ∃ σ1 γ1,At w0 X Pr0 γ0 σ1 γ1 Pr a w∧σ1.n0=σ.n0∧ch {E with sub:=I.sub} (dH E (run E j)) ops draw σ1.nx ((aq_ ops.size).zip ops.toList) [] σ1 (fun σ'=>pJ (run E j) I K S {σ' with nx:=σ1.nx+64*ops.size})=some z:=by
     split at h
     ·rename_i l hl
      obtain⟨γ',hA'⟩:=hA.norm l
      exact⟨norm l σ,γ',hA',rfl,h⟩
     ·exact⟨σ,γ,hA,rfl,h⟩
    have hfin : ∀(σ':St) (γ':Nat→Option G) (Pr':Nat→Nat→Prop) (a':Act) (w':World),pJ (run E j) I K S {σ' with nx:=σ1.nx+64*ops.size}=some z→bn w0 X Pr0 σ'.slots (ay σ'.res) γ' Pr' a' w'→(∀ r,r < σ1.nx→γ' r=γ1 r)→(∀ r,σ1.nx+64*ops.size≤r→γ' r=none)→σ'.n0=σ1.n0→σ'.nx=σ1.nx→cc P n S Q .normal a' w':=by
     intro σ' γ' Pr' a' w' h2 h3 h4 h5 h6 h7
     refine hpop I K S _ z h2 Pr0 γ0 γ' Pr' a' w' Q ⟨h3,?_,h5,?_⟩ (fun σ2 γ2 Pr2 a2 w2 h8 h9 h10=>hQ σ2 γ2 Pr2 a2 w2 h8 h9 ?_) n (by omega)
     ·intro r hr
      have hr':r < σ1.n0:=by rw[←h6]; exact hr
      rw[h4 r (X1 hr' hA1.le)]
      exact hA1.low r hr'
     ·have:=hA1.le
      show σ'.n0≤σ1.nx+64*ops.size
      omega
     ·exact h10.trans (h6.trans hn0)
    cases draw with
    | false =>
     refine wp_region ?_
     have hz:=L1 ops
     rw[←hz.2]
     refine N3 (γ0:=γ1) (hC' j (by omega)) hE' h1 hz.1 (by rw[hz.2]; exact List.nodup_range) hA1.inv (fun p hp r h2 h3=>hA1.high r (by omega)) (fun r hr=>rfl) (fun p hp=>(V8.1 (hz.1 p hp)).1) (fun r hr=>hA1.high r (by omega)) ?_
     intro σ' γ' Pr' a' w' h2 h3 h4 h5 h6 h7
     exact hfin σ' γ' Pr' a' w' h2 h3 h4 h5 h6 h7
    | true=>exact N6 hm (hC' j (by omega)) hE' (γ0:=γ1) h1 hA1.inv (fun r hr=>rfl) hA1.high hfin
   ·rename_i x y
    refine wp_seq ?_
    exact hrun I K x (.seq y :: S) σ z h Pr0 γ0 γ Pr a w Q hA hQ n (by omega)
   ·rename_i cnd x y
    split at h
    ·rename_i b hb
     have hev:=Fc hA.inv.slots cnd
     rw[hb] at hev
     have hbv:=fD hev
     split at h
     ·rename_i hbt
      rw[show b=true from hbt] at hbv
      exact wp_cond_true hbv (hrun I K x S σ z h Pr0 γ0 γ Pr a w Q hA hQ n (by omega))
     ·rename_i hbf
      have hbf':b=false:=by
       cases hh:(b:Bool) with
       | true=>exact V2 hh hbf
       | false=>rfl
      rw[hbf'] at hbv
      exact wp_cond_false hbv (hrun I K y S σ z h Pr0 γ0 γ Pr a w Q hA hQ n (by omega))
    ·cases h
   ·rename_i id x
    refine wp_block ?_
    exact hrun I K x (.block id :: S) σ z h Pr0 γ0 γ Pr a w Q hA hQ n (by omega)
   ·rename_i x
    refine wp_loop_rounds (n+1) ?_
    exact hrun I K x (.loop x :: S) σ z h Pr0 γ0 γ Pr a w Q hA hQ n (by omega)
   ·rename_i id
    split at h
    ·rename_i S' hS'
     cases j with
     | zero=>rw[zE] at h; cases h
     | succ j =>
      have hpop':J6 P E w0 X j:=L2 j (fun i hi=>ih i (by omega) (by omega)) j (T7 _)
      rw[kV] at h
      simp only[ot] at h
      exact wp_exit (jN (I:=I) S hS' (hpop' I K S' σ z h Pr0 γ0 γ Pr a w Q hA hQ n (by omega)))
    ·cases h
   ·exact wp_ret (kG S (hQ σ γ Pr a w h hA rfl).2)
   ·cases h
end
end Go.Proofs.YtfffplonjaigkaaGreatDoor.Abs
namespace Go.Proofs.YtfffplonjaigkaaGreatDoor.Abs
open Go Go.RowKit
def lU (γ γr:Nat→Option G) (ro:List Nat) (n:Nat):Prop := ∀(i r:Nat),ro[i]? = some r→γr (n+i)=γ r
theorem lU.left {γ γr:Nat→Option G} {a b:List Nat} {n:Nat} (h:lU γ γr (a++b) n):lU γ γr a n:=fun i r hr=>h i r (by
 rw[X8 (U0.1 hr).1]
 exact hr)
theorem lU.right {γ γr:Nat→Option G} {a b:List Nat} {n:Nat} (h:lU γ γr (a++b) n):lU γ γr b (n+a.length):=fun i r hr=>by
 have:=h (a.length+i) r (by
  rw[Z3 (by omega)]
  simpa using hr)
 rwa[←Z8] at this
section
variable {L:Lk} {γ γr:Nat→Option G} {res:aB} {fr:List Nat}
theorem FQ {t:Ty} {v:SV} {x:t.den} (h:ej res (.val t) v=some x):cq res 9 t v=some x:=by
 cases v <;> exact h
theorem pP {e:TypeId} {t:Ty} {b:Bool} {v:SV} {x:List t.den} (h:ej res (.row e t b) v=some x) : ∃ r,v = .row r∧ay res r=some (.row e t x b):=by
 cases v <;> first | (cases h; done) | skip
 rename_i r
 have h':(match ay res r with
  | some (.row e' s xs fr')=>match (b == fr') with
   | true=>ef? (t := .slice e' s) (.slice e t) xs
   | false=>none
  | _=>none)=some x:=h
 split at h'
 ·rename_i e' s xs fr' hg
  split at h'
  ·rename_i hb
   obtain⟨he,hx⟩:=eQ h'
   cases he
   have hx:xs=x:=hx
   subst hx
   have:b=fr':=by simpa using hb
   subst this
   exact⟨r,rfl,hg⟩
  ·cases h'
 ·cases h'
theorem lV {s:Sh} {v:SV} {x:s.den} (h:ej res (.strct s) v=some x) : ∃ l,v = .strct l∧ej.go res s l=some x:=by
 cases v <;> first | (cases h; done) | skip
 rename_i l
 exact⟨l,rfl,h⟩
theorem hY {a b:Sh} {l:List SV} {x:(Sh.pair a b).den} (h:ej.go res (.pair a b) l=some x) : ∃ v l',l=v :: l'∧ej res a v=some x.1∧ej.go res b l'=some x.2:=by
 cases l with
 | nil=>cases h
 | cons v l =>
  have h':((ej res a v).bind fun x=>(ej.go res b l).bind fun y=>some (x,y))=some x:=h
  rw[S7] at h'
  obtain⟨x1,h1,h'⟩:=h'
  rw[S7] at h'
  obtain⟨x2,h2,h'⟩:=h'
  cases h'
  exact⟨v,l,rfl,h1,h2⟩
theorem wH {l:List SV} {x:Sh.unit.den} (h:ej.go res .unit l=some x):l=[]:=by
 cases l with
 | nil=>rfl
 | cons v l=>cases h
theorem eR (hR:fE L γ res (fun r=>r∈fr)) (hT:lK γ res) : ∀(s:Sh),(∀(t0:Ty) (v:SV) (cs:List Value) (x:s.den) (n:Nat),RT L γ t0 v cs→ej res s v=some x→(∀ r∈dF s v,r∈fr)→lU γ γr (aD s v) n → ∃ t,ue s=some t∧RT L γr t (aF s x n).1 cs) ∧
  (∀(t0:Ty) (l:List SV) (cs:List Value) (x:s.den) (n:Nat),eG L γ t0 l cs→ej.go res s l=some x→(∀ r∈dF.go s l,r∈fr)→lU γ γr (aD.go s l) n → ∃ t,ue.go s=some t∧eG L γr t (aF.go s x n).1 cs)
 | .val t=>⟨fun t0 v cs x n hv h hf hn=>by
   have hk:=pK hR 9 9 (T7 _) (by
    intro r hr
    exact hf r (by cases v <;> exact hr)) hv (FQ h)
   exact⟨t,rfl,.val hk⟩,fun t0 l cs x n hv h hf hn=>by cases l <;> cases h⟩
 | .row e t b=>⟨fun t0 v cs x n hv h hf hn=>by
   obtain⟨r,rfl,hg⟩:=pP h
   cases hv with
   | row hγ =>
    obtain⟨v',hv'⟩:=hT r e t x (.inl ⟨b,hg⟩)
    rw[hγ] at hv'
    cases hv'
    refine⟨_,rfl,RT.row ?_⟩
    have:=hn 0 r rfl
    rw[au_] at this
    rw[this]
    exact hγ,fun t0 l cs x n hv h hf hn=>by cases l <;> cases h⟩
 | .unit=>⟨(fun t0 v cs x n hv h hf hn=>by cases v <;> cases h),fun t0 l cs x n hv h hf hn=>by
   have:=wH h
   subst this
   cases hv
   exact⟨.unit,rfl,.nil⟩⟩
 | .ptr t=>⟨(fun t0 v cs x n hv h hf hn=>by cases v <;> cases h),fun t0 l cs x n hv h hf hn=>by cases l <;> cases h⟩
 | .strct s=>⟨fun t0 v cs x n hv h hf hn=>by
   obtain⟨l,rfl,h'⟩:=lV h
   cases hv with
   | strct hl =>
    obtain⟨t,h1,h2⟩:=(eR hR hT s).2 _ l cs x n hl h' hf hn
    refine⟨.agg t,?_,.strct h2⟩
    show(ue.go s).map Ty.agg=_
    rw[h1]
    rfl,fun t0 l cs x n hv h hf hn=>by cases l <;> cases h⟩
 | .pair a b=>⟨(fun t0 v cs x n hv h hf hn=>by cases v <;> cases h),fun t0 l cs x n hv h hf hn=>by
   obtain⟨v,l',rfl,h1,h2⟩:=hY h
   cases hv with
   | cons hv hk =>
    have hro:aD.go (.pair a b) (v :: l')=aD a v++aD.go b l':=rfl
    rw[hro] at hn
    have hc:=(give_count a).1 v x.1 n h1
    obtain⟨t1,h3,h4⟩:=(eR hR hT a).1 _ v _ x.1 n hv h1 (fun r hr=>hf r (ap_ _ hr)) hn.left
    obtain⟨t2,h5,h6⟩:=(eR hR hT b).2 _ l' _ x.2 (aF a x.1 n).2.2 hk h2 (fun r hr=>hf r (al_ _ hr)) (by rw[hc]; exact hn.right)
    refine⟨.pair t1 t2,?_,.cons h4 h6⟩
    show((ue a).bind fun t=>(ue.go b).map fun u=>Ty.pair t u)=_
    rw[h3,h5]
    rfl⟩
where
 give_count : ∀(s:Sh),(∀(v:SV) (x:s.den) (n:Nat),ej res s v=some x→(aF s x n).2.2=n+(aD s v).length)∧(∀(l:List SV) (x:s.den) (n:Nat),ej.go res s l=some x→(aF.go s x n).2.2=n+(aD.go s l).length)
  | .val t=>⟨fun v x n h=>by cases v <;> rfl,fun l x n h=>by cases l <;> cases h⟩
  | .row e t b=>⟨fun v x n h=>by
    obtain⟨r,rfl,hg⟩:=pP h
    rfl,fun l x n h=>by cases l <;> cases h⟩
  | .unit=>⟨(fun v x n h=>by cases v <;> cases h),fun l x n h=>by
    have:=wH h
    subst this
    rfl⟩
  | .ptr t=>⟨(fun v x n h=>by cases v <;> cases h),fun l x n h=>by cases l <;> cases h⟩
  | .strct s=>⟨fun v x n h=>by
    obtain⟨l,rfl,h'⟩:=lV h
    exact(give_count s).2 l x n h',fun l x n h=>by cases l <;> cases h⟩
  | .pair a b=>⟨(fun v x n h=>by cases v <;> cases h),fun l x n h=>by
    obtain⟨v,l',rfl,h1,h2⟩:=hY h
    show(aF.go b x.2 (aF a x.1 n).2.2).2.2=n+(aD a v++aD.go b l').length
    rw[(give_count b).2 l' x.2 _ h2,(give_count a).1 v x.1 n h1,S5]
    omega⟩
theorem yc (hR:fE L γ res (fun r=>r∈fr)) (hT:lK γ res) {s:Sh} {v:SV} {u:Value} {x:s.den} {n:Nat} (hv:RV L γ v u) (h:ej res s v=some x) (hf : ∀ r∈dF s v,r∈fr) (hn:lU γ γr (aD s v) n):RV L γr (aF s x n).1 u:=by
 cases s with
 | val t =>
  obtain⟨cs,rfl,hk⟩:=eZ hR (d':=9) (T7 _) (by
   intro r hr
   exact hf r (by cases v <;> exact hr)) hv (FQ h)
  exact .val hk
 | row e t b =>
  obtain⟨r,rfl,hg⟩:=pP h
  cases hv with
  | row hγ =>
   have:=hn 0 r rfl
   rw[au_] at this
   exact .row (this.trans hγ)
 | unit=>cases v <;> cases h
 | ptr t=>cases v <;> cases h
 | pair a b=>cases v <;> cases h
 | strct s =>
  obtain⟨l,rfl,h'⟩:=lV h
  cases hv with
  | strct hl =>
   obtain⟨t,h1,h2⟩:=(eR hR hT s).2 _ l _ x n hl h' hf hn
   exact .strct h2
theorem nT : ∀(s:Sh),(∀(v:SV) (x:s.den) (n:Nat),ej res s v=some x → ∀ p∈(aF s x n).2.1,∃(i r:Nat) (e:TypeId) (t:Ty) (xs:List t.den) (b:Bool),p=(n+i,some (.row e t xs b))∧(aD s v)[i]? = some r∧ay res r=some (.row e t xs b)) ∧
  (∀(l:List SV) (x:s.den) (n:Nat),ej.go res s l=some x → ∀ p∈(aF.go s x n).2.1,∃(i r:Nat) (e:TypeId) (t:Ty) (xs:List t.den) (b:Bool),p=(n+i,some (.row e t xs b))∧(aD.go s l)[i]? = some r∧ay res r=some (.row e t xs b))
 | .val t=>⟨fun v x n h p hp=>by simp[aF] at hp,fun l x n h=>by cases l <;> cases h⟩
 | .row e t b=>⟨fun v x n h p hp=>by
   obtain⟨r,rfl,hg⟩:=pP h
   simp only[aF,U4] at hp
   exact⟨0,r,e,t,x,b,hp,rfl,hg⟩,fun l x n h=>by cases l <;> cases h⟩
 | .unit=>⟨(fun v x n h=>by cases v <;> cases h),fun l x n h p hp=>by simp[aF.go] at hp⟩
 | .ptr t=>⟨(fun v x n h p hp=>by cases v <;> cases h),fun l x n h=>by cases l <;> cases h⟩
 | .strct s=>⟨fun v x n h p hp=>by
   obtain⟨l,rfl,h'⟩:=lV h
   exact(nT s).2 l x n h' p hp,fun l x n h=>by cases l <;> cases h⟩
 | .pair a b=>⟨(fun v x n h=>by cases v <;> cases h),fun l x n h p hp=>by
   obtain⟨v,l',rfl,h1,h2⟩:=hY h
   have hp':p∈(aF a x.1 n).2.1++(aF.go b x.2 (aF a x.1 n).2.2).2.1:=hp
   have hro:aD.go (.pair a b) (v :: l')=aD a v++aD.go b l':=rfl
   rw[hro]
   rcases W1.1 hp' with hp | hp
   ·obtain⟨i,r,e,t,xs,b',h3,h4,h5⟩:=(nT a).1 v x.1 n h1 p hp
    exact⟨i,r,e,t,xs,b',h3,by rw[X8 (U0.1 h4).1]; exact h4,h5⟩
   ·obtain⟨i,r,e,t,xs,b',h3,h4,h5⟩:=(nT b).2 l' x.2 _ h2 p hp
    have hc:=(eR.give_count a).1 v x.1 n h1
    refine⟨(aD a v).length+i,r,e,t,xs,b',?_,?_,h5⟩
    ·rw[h3,hc,Z8]
    ·rw[Z3 (by omega)]
     simpa using h4⟩
variable {n0:Nat}
theorem ri {t:Ty} {v:SV} {x:t.den} (h:nl n0 res (.ptr t) v=some x) : ∃ r c,v = .ptr r t []∧n0≤r∧ay res r=some (.box t c)∧cq [] 9 t c=some x:=by
 unfold nl at h
 cases v <;> first | (cases h; done) | skip
 rename_i r s p
 cases p with
 | cons _ _=>cases h
 | nil =>
  simp only at h
  split at h
  ·rename_i t' c hb hg
   split at h
   ·rename_i hs
    split at h
    ·rename_i ht
     subst hs
     subst ht
     exact⟨r,c,rfl,Nat.le_of_ble_eq_true hb,hg,h⟩
    ·cases h
   ·cases h
  ·cases h
theorem km {a b:Sh} {l:List SV} {x:(Sh.pair a b).den} (h:ji n0 res (.pair a b) l=some x) : ∃ v l',l=v :: l'∧nl n0 res a v=some x.1∧ji n0 res b l'=some x.2:=by
 cases l with
 | nil=>cases h
 | cons v l =>
  have h':((nl n0 res a v).bind fun x=>(ji n0 res b l).bind fun y=>some (x,y))=some x:=h
  rw[S7] at h'
  obtain⟨x1,h1,h'⟩:=h'
  rw[S7] at h'
  obtain⟨x2,h2,h'⟩:=h'
  cases h'
  exact⟨v,l,rfl,h1,h2⟩
theorem nr {l:List SV} {x:Sh.unit.den} (h:ji n0 res .unit l=some x):l=[]:=by
 cases l with
 | nil=>rfl
 | cons v l=>cases h
theorem wI : ∀(s:Sh) (v:SV) (x:s.den) (n:Nat),nl n0 res s v=some x→(aF s x n).2.2=n+(aD s v).length:=by
 intro s v x n h
 cases s with
 | val t=>exact(eR.give_count (res:=res) (.val t)).1 v x n h
 | row e t b=>exact(eR.give_count (res:=res) (.row e t b)).1 v x n h
 | strct s=>exact(eR.give_count (res:=res) (.strct s)).1 v x n h
 | pair a b =>
  have h':ej res (.pair a b) v=some x:=h
  cases v <;> cases h'
 | unit=>cases v <;> rfl
 | ptr t =>
  obtain⟨r,c,rfl,_⟩:=ri h
  rfl
theorem A1 : ∀(s:Sh) (l:List SV) (x:s.den) (n:Nat),ji n0 res s l=some x→(aF.go s x n).2.2=n+(aD.go s l).length
 | .val t,l,x,n,h=>by cases l <;> cases h
 | .row e t b,l,x,n,h=>by cases l <;> cases h
 | .strct s,l,x,n,h=>by cases l <;> cases h
 | .ptr t,l,x,n,h=>by cases l <;> cases h
 | .unit,l,x,n,h=>by
  have:=nr h
  subst this
  rfl
 | .pair a b,l,x,n,h=>by
  obtain⟨v,l',rfl,h1,h2⟩:=km h
  show(aF.go b x.2 (aF a x.1 n).2.2).2.2=n+(aD a v++aD.go b l').length
  rw[A1 b l' x.2 _ h2,wI a v x.1 n h1,S5]
  omega
theorem Qz (hR:fE L γ res (fun r=>r∈fr)) (hT:lK γ res) {s:Sh} {v:SV} {u:Value} {x:s.den} {n:Nat} (hv:RV L γ v u) (h:nl n0 res s v=some x) (hf : ∀ r∈dF s v,r∈fr) (hn:lU γ γr (aD s v) n):RV L γr (aF s x n).1 u:=by
 cases s with
 | val t=>exact yc hR hT hv (s := .val t) h hf hn
 | row e t b=>exact yc hR hT hv (s := .row e t b) h hf hn
 | strct s=>exact yc hR hT hv (s := .strct s) h hf hn
 | pair a b=>exact yc hR hT hv (s := .pair a b) h hf hn
 | unit=>exact .undef
 | ptr t =>
  obtain⟨r,c,rfl,_⟩:=ri h
  cases hv with
  | ptr hk hp =>
   have h1:=hn 0 r rfl
   rw[au_] at h1
   exact .ptr (h1.trans hk) hp
theorem FR (hR:fE L γ res (fun r=>r∈fr)) (hT:lK γ res) : ∀(s:Sh) (l:List SV) (us:List Value) (x:s.den) (n:Nat),b8 L γ l us→ji n0 res s l=some x→(∀ r∈dF.go s l,r∈fr)→lU γ γr (aD.go s l) n→b8 L γr (aF.go s x n).1 us
 | .val t,l,us,x,n,hv,h,hf,hn=>by cases l <;> cases h
 | .row e t b,l,us,x,n,hv,h,hf,hn=>by cases l <;> cases h
 | .strct s,l,us,x,n,hv,h,hf,hn=>by cases l <;> cases h
 | .ptr t,l,us,x,n,hv,h,hf,hn=>by cases l <;> cases h
 | .unit,l,us,x,n,hv,h,hf,hn=>by
  have:=nr h
  subst this
  cases hv
  exact .nil
 | .pair a b,l,us,x,n,hv,h,hf,hn=>by
  obtain⟨v,l',rfl,h1,h2⟩:=km h
  cases hv with
  | cons hv hk =>
   have hro:aD.go (.pair a b) (v :: l')=aD a v++aD.go b l':=rfl
   rw[hro] at hn
   have hc:=wI a v x.1 n h1
   exact .cons (Qz hR hT hv h1 (fun r hr=>hf r (ap_ _ hr)) hn.left)
    (FR hR hT b l' _ x.2 (aF a x.1 n).2.2 hk h2 (fun r hr=>hf r (al_ _ hr)) (by rw[hc]; exact hn.right))
def nu (n0:Nat) (res:aB) (r:Nat) (y:aP):Prop:=(∃(e:TypeId) (t:Ty) (xs:List t.den) (b:Bool),y = .row e t xs b∧ay res r=some y) ∨ ∃(t:Ty) (c:SV) (x:t.den),y = .box t (ff (.val t x))∧n0≤r∧ay res r=some (.box t c)∧cq [] 9 t c=some x
theorem nu.old {r:Nat} {y:aP} (h:nu n0 res r y) : ∃ y0,ay res r=some y0∧(∀(γ:Nat→Option G) r,bj γ r y0=bj γ r y) ∧ ∀ o,fX y0 o→fX y o:=by
 rcases h with⟨e,t,xs,b,rfl,hg⟩ | ⟨t,c,x,rfl,_,hg,_⟩
 ·exact⟨_,hg,fun _ _=>rfl,fun _ h=>h⟩
 ·exact⟨_,hg,fun _ _=>rfl,fun _ h=>h⟩
theorem N7 : ∀(s:Sh) (v:SV) (x:s.den) (n:Nat),nl n0 res s v=some x→(∀ p∈(aF s x n).2.1,∃(i r:Nat) (y:aP),p=(n+i,some y)∧(aD s v)[i]? = some r∧nu n0 res r y):=by
 intro s v x n h p hp
 have old:(ej res s v=some x) → ∃(i r:Nat) (y:aP),p=(n+i,some y)∧(aD s v)[i]? = some r∧nu n0 res r y:=fun h=>by
  obtain⟨i,r,e,t,xs,b,h1,h2,h3⟩:=(nT s).1 v x n h p hp
  exact⟨i,r,_,h1,h2,.inl ⟨e,t,xs,b,rfl,h3⟩⟩
 cases s with
 | val t=>exact old h
 | row e t b=>exact old h
 | strct s=>exact old h
 | pair a b=>exact old h
 | unit=>simp[aF] at hp
 | ptr t =>
  obtain⟨r,c,rfl,h1,h2,h3⟩:=ri h
  simp only[aF,U4] at hp
  exact⟨0,r,_,hp,rfl,.inr ⟨t,c,x,rfl,h1,h2,h3⟩⟩
theorem DF : ∀(s:Sh) (l:List SV) (x:s.den) (n:Nat),ji n0 res s l=some x → ∀ p∈(aF.go s x n).2.1,∃(i r:Nat) (y:aP),p=(n+i,some y)∧(aD.go s l)[i]? = some r∧nu n0 res r y
 | .val t,l,x,n,h=>by cases l <;> cases h
 | .row e t b,l,x,n,h=>by cases l <;> cases h
 | .strct s,l,x,n,h=>by cases l <;> cases h
 | .ptr t,l,x,n,h=>by cases l <;> cases h
 | .unit,l,x,n,h=>fun p hp=>by simp[aF.go] at hp
 | .pair a b,l,x,n,h=>fun p hp=>by
  obtain⟨v,l',rfl,h1,h2⟩:=km h
  have hp':p∈(aF a x.1 n).2.1++(aF.go b x.2 (aF a x.1 n).2.2).2.1:=hp
  have hro:aD.go (.pair a b) (v :: l')=aD a v++aD.go b l':=rfl
  rw[hro]
  rcases W1.1 hp' with hp | hp
  ·obtain⟨i,r,y,h3,h4,h5⟩:=N7 a v x.1 n h1 p hp
   exact⟨i,r,y,h3,by rw[X8 (U0.1 h4).1]; exact h4,h5⟩
  ·obtain⟨i,r,y,h3,h4,h5⟩:=DF b l' x.2 _ h2 p hp
   have hc:=wI a v x.1 n h1
   refine⟨(aD a v).length+i,r,y,?_,?_,h5⟩
   ·rw[h3,hc,Z8]
   ·rw[Z3 (by omega)]
    simpa using h4
end
end Go.Proofs.YtfffplonjaigkaaGreatDoor.Abs
namespace Go.Proofs.YtfffplonjaigkaaGreatDoor.Abs
open Go Go.RowKit
section
variable {L:Lk} {γ γr:Nat→Option G} {res:aB} {fr:List Nat}
theorem QA {n0:Nat} {s:Sh} {v:SV} {x:s.den} (h:nl n0 res s v=some x):v ≠ .undef:=by
 rintro rfl
 cases s <;> first | (cases h; done) | skip
theorem I5 {n0:Nat} : ∀ {s:Sh} {l:List SV} {x:s.den},ji n0 res s l=some x → ∀ v∈l,v ≠ .undef
 | .val t,l,x,h=>by cases l <;> cases h
 | .row e t b,l,x,h=>by cases l <;> cases h
 | .strct s,l,x,h=>by cases l <;> cases h
 | .ptr t,l,x,h=>by cases l <;> cases h
 | .unit,l,x,h=>by
  have:=nr h
  subst this
  intro v hv
  simp at hv
 | .pair a b,l,x,h=>by
  obtain⟨v,l',rfl,h1,h2⟩:=km h
  intro u hu
  rcases U7.1 hu with rfl | hu
  ·exact QA h1
  ·exact I5 h2 u hu
theorem pQ : ∀(s:Sh),(∀(v:SV) (x:s.den),ej res s v=some x → ∀ r∈aD s v,∃(e:TypeId) (t:Ty) (xs:List t.den) (b:Bool),ay res r=some (.row e t xs b)) ∧
  (∀(l:List SV) (x:s.den),ej.go res s l=some x → ∀ r∈aD.go s l,∃(e:TypeId) (t:Ty) (xs:List t.den) (b:Bool),ay res r=some (.row e t xs b))
 | .val t=>⟨fun v x h r hr=>by cases v <;> simp[aD] at hr,fun l x h=>by cases l <;> cases h⟩
 | .row e t b=>⟨fun v x h r hr=>by
   obtain⟨r',rfl,hg⟩:=pP h
   have:r=r':=by simpa[aD] using hr
   subst this
   exact⟨e,t,x,b,hg⟩,fun l x h=>by cases l <;> cases h⟩
 | .unit=>⟨fun v x h=>(by cases v <;> cases h),fun l x h r hr=>by
   have:=wH h
   subst this
   simp[aD.go] at hr⟩
 | .ptr t=>⟨fun v x h=>(by cases v <;> cases h),fun l x h=>by cases l <;> cases h⟩
 | .strct s=>⟨fun v x h=>by
   obtain⟨l,rfl,h'⟩:=lV h
   exact(pQ s).2 l x h',fun l x h=>by cases l <;> cases h⟩
 | .pair a b=>⟨fun v x h=>(by cases v <;> cases h),fun l x h r hr=>by
   obtain⟨v,l',rfl,h1,h2⟩:=hY h
   have hr':r∈aD a v++aD.go b l':=hr
   rcases W1.1 hr' with hr | hr
   ·exact(pQ a).1 v x.1 h1 r hr
   ·exact(pQ b).2 l' x.2 h2 r hr⟩
theorem PA {n0:Nat} : ∀(s:Sh) (v:SV) (x:s.den),nl n0 res s v=some x → ∀ r∈aD s v,∃ y,nu n0 res r y:=by
 intro s v x h r hr
 have old:ej res s v=some x → ∃ y,nu n0 res r y:=fun h=>by
  obtain⟨e,t,xs,b,hg⟩:=(pQ s).1 v x h r hr
  exact⟨_,.inl ⟨e,t,xs,b,rfl,hg⟩⟩
 cases s with
 | val t=>exact old h
 | row e t b=>exact old h
 | strct s=>exact old h
 | pair a b=>exact old h
 | unit=>cases v <;> simp[aD] at hr
 | ptr t =>
  obtain⟨r',c,rfl,h1,h2,h3⟩:=ri h
  have:r=r':=by simpa[aD] using hr
  subst this
  exact⟨_,.inr ⟨t,c,x,rfl,h1,h2,h3⟩⟩
theorem FS {n0:Nat} : ∀(s:Sh) (l:List SV) (x:s.den),ji n0 res s l=some x → ∀ r∈aD.go s l,∃ y,nu n0 res r y
 | .val t,l,x,h=>by cases l <;> cases h
 | .row e t b,l,x,h=>by cases l <;> cases h
 | .strct s,l,x,h=>by cases l <;> cases h
 | .ptr t,l,x,h=>by cases l <;> cases h
 | .unit,l,x,h=>fun r hr=>by
  have:=nr h
  subst this
  simp[aD.go] at hr
 | .pair a b,l,x,h=>fun r hr=>by
  obtain⟨v,l',rfl,h1,h2⟩:=km h
  have hr':r∈aD a v++aD.go b l':=hr
  rcases W1.1 hr' with hr | hr
  ·exact PA a v x.1 h1 r hr
  ·exact FS b l' x.2 h2 r hr
theorem nU {rb:Bool} (hR:fE L γ res (fun r=>r∈fr)) (hT:lK γ res) : ∀(tab:aB) (s:Sh) (cs:List SV) (y:s.den) (n:Nat) (ub:List (Option aP)),jI rb res tab=some cs→ej.go res s cs=some y→bX rb tab (aF.go s y n).1 (nk s)=some ub →
  (∀ r∈dF.go s cs,r∈fr)→lU γ γr (aD.go s cs) n → ∀(j:Nat) (t:Ty) (c':SV),ub[j]? = some (some (.box t c')) → ∃(key:Nat) (c c0:SV),tab[j]? = some (key,.box t c0)∧ay res key=some (.box t c) ∧ ∀ cells,RT L γ t c cells→RT L γr t c' cells
 | [],s,cs,y,n,ub,_,_,hb,_,_,j,t,c',hj=>by
  have:=(gt hb).1
  rw[W8 this] at hj
  simp at hj
 | (k,.row e t0 xs fr0) :: l,s,cs,y,n,ub,hbx,ho,hb,hf,hn,j,t,c',hj=>by
  cases rb with
  | false =>
   unfold bX at hb
   simp only[S7,U3] at hb
   obtain⟨u',h1,rfl⟩:=hb
   have hbx':jI false res l=some cs:=hbx
   cases j with
   | zero=>simp at hj
   | succ j =>
    obtain⟨key,c,c0,h2,h3,h4⟩:=nU hR hT l s cs y n u' hbx' ho h1 hf hn j t c' (by simpa using hj)
    exact⟨key,c,c0,by simpa using h2,h3,h4⟩
  | true =>
   unfold jI at hbx
   simp only[S7,U3] at hbx
   obtain⟨cs',h1,rfl⟩:=hbx
   cases s with
   | val _=>cases ho
   | row _ _ _=>cases ho
   | strct _=>cases ho
   | ptr _=>cases ho
   | unit=>cases ho
   | pair a b =>
    obtain⟨v,l',he,h2,h3⟩:=hY ho
    cases he
    have hro:aD.go (.pair a b) (.row k :: cs')=aD a (.row k)++aD.go b cs':=rfl
    rw[hro] at hn
    have hc:=(eR.give_count a).1 (.row k) y.1 n h2
    have hmk:(aF.go (.pair a b) y n).1=(aF a y.1 n).1 :: (aF.go b y.2 (aF a y.1 n).2.2).1:=rfl
    rw[hmk] at hb
    have hst:nk (.pair a b)=ue a :: nk b:=rfl
    rw[hst] at hb
    unfold bX at hb
    simp only at hb
    split at hb
    ·rename_i m1 vs1 s1 ts1 hv1 hs1
     obtain⟨_,rfl⟩:=ce_ hv1
     obtain⟨_,rfl⟩:=ce_ hs1
     simp only[S7,U3] at hb
     obtain⟨u',h4,rfl⟩:=hb
     cases j with
     | zero=>simp at hj
     | succ j =>
      obtain⟨key,c1,c2,h5,h6,h7⟩:=nU hR hT l b cs' y.2 (aF a y.1 n).2.2 u' h1 h3 h4 (fun r hr=>hf r (al_ _ hr)) (by rw[hc]; exact hn.right) j t c' (by simpa using hj)
      exact⟨key,c1,c2,by simpa using h5,h6,h7⟩
    ·cases hb
 | (k,.old e t0 xs) :: l,s,cs,y,n,ub,hbx,ho,hb,hf,hn,j,t,c',hj=>by
  unfold bX at hb
  simp only[S7] at hb
  obtain⟨u',h1,he⟩:=hb
  cases he
  cases j with
  | zero=>simp at hj
  | succ j =>
   obtain⟨key,c,c0,h2,h3,h4⟩:=nU hR hT l s cs y n u' hbx ho h1 hf hn j t c' (by simpa using hj)
   exact⟨key,c,c0,by simpa using h2,h3,h4⟩
 | (k,.gone e t0 xs) :: l,s,cs,y,n,ub,hbx,ho,hb,hf,hn,j,t,c',hj=>by
  unfold bX at hb
  simp only[S7] at hb
  obtain⟨u',h1,he⟩:=hb
  cases he
  cases j with
  | zero=>simp at hj
  | succ j =>
   obtain⟨key,c,c0,h2,h3,h4⟩:=nU hR hT l s cs y n u' hbx ho h1 hf hn j t c' (by simpa using hj)
   exact⟨key,c,c0,by simpa using h2,h3,h4⟩
 | (k,.keepF g0 caps0) :: l,s,cs,y,n,ub,hbx,ho,hb,hf,hn,j,t,c',hj=>by
  unfold bX at hb
  simp only[S7] at hb
  obtain⟨u',h1,he⟩:=hb
  cases he
  cases j with
  | zero=>simp at hj
  | succ j =>
   obtain⟨key,c,c0,h2,h3,h4⟩:=nU hR hT l s cs y n u' hbx ho h1 hf hn j t c' (by simpa using hj)
   exact⟨key,c,c0,by simpa using h2,h3,h4⟩
 | (k,.rowP g0 caps0) :: l,s,cs,y,n,ub,hbx,ho,hb,hf,hn,j,t,c',hj=>by
  unfold bX at hb
  simp only[S7] at hb
  obtain⟨u',h1,he⟩:=hb
  cases he
  cases j with
  | zero=>simp at hj
  | succ j =>
   obtain⟨key,c,c0,h2,h3,h4⟩:=nU hR hT l s cs y n u' hbx ho h1 hf hn j t c' (by simpa using hj)
   exact⟨key,c,c0,by simpa using h2,h3,h4⟩
 | (k,.box t0 c0) :: l,s,cs,y,n,ub,hbx,ho,hb,hf,hn,j,t,c',hj=>by
  unfold jI at hbx
  split at hbx
  ·rename_i t' c hg
   split at hbx
   ·rename_i htt
    subst htt
    rw[S7] at hbx
    obtain⟨cs',h1,he⟩:=hbx
    cases he
    cases s with
    | val _=>cases ho
    | row _ _ _=>cases ho
    | strct _=>cases ho
    | ptr _=>cases ho
    | unit=>cases ho
    | pair a b =>
     obtain⟨v,l',he,h2,h3⟩:=hY ho
     cases he
     have hro:aD.go (.pair a b) (c :: cs')=aD a c++aD.go b cs':=rfl
     rw[hro] at hn
     have hc:=(eR.give_count a).1 c y.1 n h2
     have hmk:(aF.go (.pair a b) y n).1=(aF a y.1 n).1 :: (aF.go b y.2 (aF a y.1 n).2.2).1:=rfl
     rw[hmk] at hb
     have hst:nk (.pair a b)=ue a :: nk b:=rfl
     rw[hst] at hb
     unfold bX at hb
     split at hb
     ·rename_i v1 vs1 s1 ts1 hv1 hs1
      cases hv1
      obtain⟨hs2,rfl⟩:=ce_ hs1
      split at hb
      ·rename_i hs1t
       rw[S7] at hb
       obtain⟨u',h4,he⟩:=hb
       cases he
       cases j with
       | zero =>
        simp only[List.getElem?_cons_zero,U3,aP.box.injEq] at hj
        obtain⟨rfl,rfl⟩:=hj
        refine⟨k,c,c0,rfl,hg,fun cells hcells => ?_⟩
        obtain⟨t2,h5,h6⟩:=(eR hR hT a).1 _ c cells y.1 n hcells h2 (fun r hr=>hf r (ap_ _ hr)) hn.left
        rw[hs2] at h5
        cases h5
        rw[←hs1t]
        exact h6
       | succ j =>
        obtain⟨key,c1,c2,h5,h6,h7⟩:=nU hR hT l b cs' y.2 (aF a y.1 n).2.2 u' h1 h3 h4 (fun r hr=>hf r (al_ _ hr)) (by rw[hc]; exact hn.right) j t c' (by simpa using hj)
        exact⟨key,c1,c2,by simpa using h5,h6,h7⟩
      ·cases hb
     ·cases hb
   ·cases hbx
  ·cases hbx
theorem lr {rb:Bool} : ∀(tab:aB) (s:Sh) (cs:List SV) (y:s.den) (n:Nat),jI rb res tab=some cs→ej.go res s cs=some y→lU γ γr (aD.go s cs) n → ∀ p∈cE rb tab (aF.go s y n).1,γr p.1=γ p.2
 | [],s,cs,y,n,_,_,_,p,hp=>by
  generalize (aF.go s y n).1=bs at hp
  cases bs <;> simp[cE] at hp
 | (k,.box t0 c0) :: l,s,cs,y,n,hbx,ho,hn,p,hp=>by
  unfold jI at hbx
  split at hbx
  ·split at hbx
   ·simp only[S7,U3] at hbx
    obtain⟨cs',h1,rfl⟩:=hbx
    cases s with
    | val _=>cases ho
    | row _ _ _=>cases ho
    | strct _=>cases ho
    | ptr _=>cases ho
    | unit=>cases ho
    | pair a b =>
     obtain⟨v,l',he,h2,h3⟩:=hY ho
     cases he
     have hro : ∀ c,aD.go (.pair a b) (c :: cs')=aD a c++aD.go b cs':=fun _=>rfl
     rw[hro] at hn
     have hc:=(eR.give_count a).1 _ y.1 n h2
     have hp':p∈cE rb l (aF.go b y.2 (aF a y.1 n).2.2).1:=hp
     exact lr l b cs' y.2 _ h1 h3 (by rw[hc]; exact hn.right) p hp'
   ·cases hbx
  ·cases hbx
 | (k,.old e t0 xs) :: l,s,cs,y,n,hbx,ho,hn,p,hp=>lr l s cs y n hbx ho hn p (by unfold cE at hp; exact hp)
 | (k,.gone e t0 xs) :: l,s,cs,y,n,hbx,ho,hn,p,hp=>lr l s cs y n hbx ho hn p (by unfold cE at hp; exact hp)
 | (k,.keepF g0 caps0) :: l,s,cs,y,n,hbx,ho,hn,p,hp=>lr l s cs y n hbx ho hn p (by unfold cE at hp; exact hp)
 | (k,.rowP g0 caps0) :: l,s,cs,y,n,hbx,ho,hn,p,hp=>lr l s cs y n hbx ho hn p (by unfold cE at hp; exact hp)
 | (k,.row e t0 xs fr0) :: l,s,cs,y,n,hbx,ho,hn,p,hp=>by
  cases rb with
  | false =>
   have hbx':jI false res l=some cs:=hbx
   exact lr l s cs y n hbx' ho hn p (by unfold cE at hp; exact hp)
  | true =>
   unfold jI at hbx
   simp only[S7,U3] at hbx
   obtain⟨cs',h1,rfl⟩:=hbx
   cases s with
   | val _=>cases ho
   | row _ _ _=>cases ho
   | strct _=>cases ho
   | ptr _=>cases ho
   | unit=>cases ho
   | pair a b =>
    obtain⟨v,l',he,h2,h3⟩:=hY ho
    cases he
    have hro:aD.go (.pair a b) (.row k :: cs')=aD a (.row k)++aD.go b cs':=rfl
    rw[hro] at hn
    have hc:=(eR.give_count a).1 (.row k) y.1 n h2
    have hmk:(aF.go (.pair a b) y n).1=(aF a y.1 n).1 :: (aF.go b y.2 (aF a y.1 n).2.2).1:=rfl
    rw[hmk] at hp
    unfold cE at hp
    simp only at hp
    split at hp
    ·rename_i m vs hv
     obtain⟨hv1,rfl⟩:=ce_ hv
     rcases U7.1 hp with rfl | hp
     ·cases a with
      | val t=>cases hv1
      | row e' t' fr' =>
       have hv2:SV.row n = .row m:=hv1
       cases hv2
       have:=hn.left 0 k rfl
       simpa using this
      | unit=>cases h2
      | pair _ _=>cases h2
      | strct _=>cases h2
      | ptr _=>cases h2
     ·exact lr l b cs' y.2 _ h1 h3 (by rw[hc]; exact hn.right) p hp
    ·simp at hp
theorem FT : ∀ {u:Up} {get:Nat→Option aP} {m:Nat} {y:aP},bo get u m=some y→(m,some y)∈u∨get m=some y
 | [],get,m,y,h => .inr h
 | (k,x) :: u,get,m,y,h=>by
  rcases FT (u:=u) (show bo (fun s=>if s=k then x else get s) u m=some y from h) with h2 | h2
  ·exact .inl (T8 _ h2)
  ·by_cases hk:m=k
   ·rw[S6 hk] at h2
    subst hk
    rw[h2]
    exact .inl (by simp)
   ·rw[S4 hk] at h2
    exact .inr h2
end
section
variable {P:Program} {E:ce} {w0:World} {X:Nat→Prop} {Pr0:Nat→Nat→Prop} {γ:Nat→Option G} {Pr:Nat→Nat→Prop} {a:Act} {w:World} {σ:St}
abbrev mQ (a:Act):ResultVar→Sem Value:=fun
 | .tmp t=>pure (a.tmps.getD t undef)
 | .cell c t=>do loadVar t (←asAddr (a.tmps.getD c undef))
theorem L3 (hE:d7 P E) (hI:bn w0 X Pr0 σ.slots (ay σ.res) γ Pr a w) (rv:ResultVar) (hne:dC E σ rv ≠ .undef) : ∃ val,(mQ a rv).run P w = .ok val w∧RV (Ln Pr w) γ (dC E σ rv) val:=by
 cases rv with
 | tmp t=>exact⟨_,rfl,Fc hI.slots (.tmp t)⟩
 | cell c T =>
  have hev:=Fc hI.slots (.tmp c)
  simp only[ev,Act.eval] at hev
  simp only[dC] at hne ⊢
  split at hne
  ·rename_i r s path t hsl hT
   split at hne
   ·rename_i bt c' hg
    split at hne
    ·rename_i v hv
     split at hne
     ·rename_i hst
      subst hst
      rw[hsl] at hev
      obtain⟨cs,h1,h2⟩:=zw (P:=P) hI hev hg (bM hE hT).2 hv
      refine⟨mk s cs,?_,?_⟩
      ·generalize hx:a.tmps.getD c undef=x at *
       cases hev with
       | ptr hb hp =>
        simp only[Instr.loadAt,Instr.sureAddr,U5,V0,T6] at h1
        simp only[mQ,hx,asAddr,U5,V0,T6]
        exact h1
      ·simp only[hsl,hT,hg,hv,S6]
       exact JZ h2
     ·exact V2 rfl hne
    ·exact V2 rfl hne
   ·exact V2 rfl hne
  ·exact V2 rfl hne
theorem A2 (hE:d7 P E) (hI:bn w0 X Pr0 σ.slots (ay σ.res) γ Pr a w) : ∀(l:List ResultVar),(∀ v∈l.map (dC E σ),v ≠ .undef) → ∃ vals,(l.mapM (mQ a)).run P w = .ok vals w∧b8 (Ln Pr w) γ (l.map (dC E σ)) vals
 | [],_=>⟨[],by simp,.nil⟩
 | rv :: l,h=>by
  obtain⟨val,h1,h2⟩:=L3 hE hI rv (h _ (by simp))
  obtain⟨vals,h3,h4⟩:=A2 hE hI l (fun v hv=>h v (by rw[Y4]; exact T8 _ hv))
  refine⟨val :: vals,?_,.cons h2 h4⟩
  simp only[List.mapM_cons,U5,h1,T6,h3,V0]
theorem HU {fn:Func} {vals:List Value} (h:(fn.results.toList.mapM (mQ a)).run P w = .ok vals w):(results fn a.tmps).run P w = .ok (wD vals) w:=by
 have hm:(fn.results.mapM (mQ a)).run P w = .ok vals.toArray w:=by
  rw[Array.mapM_eq_mapM_toList,Sem.run_map,h]
  rfl
 show(do let vs ←fn.results.mapM (mQ a); pure (if h:vs.size=1 then vs[0] else .tuple vs):Sem Value).run P w=_
 simp only[U5,hm,T6,V0]
 congr 1
 match vals with
 | []=>rfl
 | [v]=>rfl
 | v :: v' :: l =>
  rw[dif_neg (by simp)]
  rfl
theorem FU {Gp:WP} (hE:d7 P E) (hP:sW Gp P E) {k:Nat} (hR : ∀ w0 X,Gp w0 X→Fd P E w0 X k):ig Gp P E (dH E (run E k)):=by
 intro I args tab z key hg hz
 unfold dH at hz
 split at hz
 ·rename_i f hf
  exact hP I f key hg hf args tab z hz
 intro hcanon w γ Pr us hGp hI hlim N hN vs u n bs u' n' ub hmk1 hmk2 hub
 obtain⟨hfn,hbody,_⟩:=hE.fns key I hg
 obtain⟨c,hc⟩ : ∃ c,I.fn.body=some c:=by
  cases hb:I.fn.body with
  | none=>rw[hb] at hbody; cases hbody
  | some c=>exact⟨c,rfl⟩
 have hbo:aR I.fn=c:=by unfold aR; rw[hc]
 refine calls_of_wp hfn hc ?_
 have hlen:args.length=us.length:=IQ hI.slots
 have hrep : ∀ m,b8 (Ln Pr w) γ (W3 m .undef) (W3 m undef):=by
  intro m
  induction m with
  | zero=>exact .nil
  | succ m ih=>exact .cons .undef ih
 have hI0:bn w (iC tab γ) Pr (start I args tab).slots (ay (start I args tab).res) γ Pr {tmps:=us.toArray++Array.replicate (I.fn.ntmps - us.toArray.size) undef,defers:=[]} w:=by
  refine⟨?_,rfl,hI.gs,hI.wfs,hI.res,hI.apart,hI.loose,hI.where_,hI.frame,hI.size,hI.os,hI.tape,hI.output,hI.prIn,hI.prOld,hI.pr0⟩
  show b8 (Ln Pr w) γ (args++W3 (I.fn.ntmps - args.length) .undef) (us.toArray++Array.replicate (I.fn.ntmps - us.toArray.size) undef).toList
  have:(us.toArray++Array.replicate (I.fn.ntmps - us.toArray.size) undef).toList=us++W3 (I.fn.ntmps - us.length) undef:=by simp
  rw[this,hlen]
  exact uo hI.slots (hrep _)
 have hz':run E k I (gb E I tab) c [] (start I args tab)=some z:=by rw[←hbo]; exact hz
 refine hR w (iC tab γ) hGp I (gb E I tab) c [] (start I args tab) z hz' Pr γ γ Pr _ w (bodyPost P I.fn _) ⟨hI0,fun _ _=>rfl,hlim,T7 _⟩ ?_ k (T7 _)
 intro σ' γ' Pr' a' w' hfin hA hn0
 have key:a'.defers=[] ∧ ∃ v,(results I.fn a'.tmps).run P w' = .ok v w' ∧ ∃ vals γr Pr2,Ending.returned v = .returned (wD vals)∧rS w (iC tab γ) γ Pr N n' vs ub (u++u') vals γr Pr2 w' ∧ ∀ p∈cE I.rb tab bs,γr p.1=γ p.2:=by
  refine⟨hA.inv.defers,?_⟩
  unfold gb at hfin
  simp only[S7] at hfin
  obtain⟨x,hx,cs,hcs,y,hy,hfin⟩:=hfin
  split at hfin
  ·rename_i honce hmeet
   cases hfin
   obtain⟨vals,hrun,hvals⟩:=A2 hE hA.inv I.fn.results.toList (I5 hx)
   refine⟨wD vals,HU hrun,vals,?_⟩
   obtain⟨Pr2,hI2,hP2,hR2,hsame,_,hkeep⟩:=gr (res:=σ'.res) hA.inv (fun r x h=>h) (dF.go I.sh (I.fn.results.toList.map (dC E σ'))++dF.go I.bx cs)
   have hT2:lK γ' σ'.res:=hA.inv.tys (fun r x h=>h)
   have hL2 : ∀ b o v,Ln Pr' w' b o v→Ln Pr2 w' b o v:=fun b o v h=>⟨hP2 _ _ h.1,h.2⟩
   have hnd:=zA honce
   have hn0':σ'.n0=tab.length:=hn0
   have hnumb:lU γ' (fun m=>if N≤m then((bJ I.sh (I.fn.results.toList.map (dC E σ'))++bJ I.bx cs)[m - N]?).bind γ' else none) (bJ I.sh (I.fn.results.toList.map (dC E σ'))++bJ I.bx cs) N:=by
    intro i r hr
    show(if N≤N+i then _ else none)=_
    rw[S6 (by omega),cv_,hr]
    rfl
   have hcnt1:n=N+(bJ I.sh (I.fn.results.toList.map (dC E σ'))).length:=by
    have:=A1 I.sh _ x N hx
    have h2:(aF.go I.sh x N).2.2=n:=by
     have h3:aF.go I.sh x N=(vs,u,n):=hmk1
     rw[h3]
    rw[←h2]
    exact this
   have hcnt2:n'=N+(bJ I.sh (I.fn.results.toList.map (dC E σ'))++bJ I.bx cs).length:=by
    have:=(eR.give_count I.bx).2 _ y n hy
    have h2:(aF.go I.bx y n).2.2=n':=by
     have h3:aF.go I.bx y n=(bs,u',n'):=hmk2
     rw[h3]
    rw[←h2,this,hcnt1,S5,Z8]
    rfl
   have hvs:vs=(aF.go I.sh x N).1:=by
    have h3:aF.go I.sh x N=(vs,u,n):=hmk1
    rw[h3]
   have hbs:bs=(aF.go I.bx y n).1:=by
    have h3:aF.go I.bx y n=(bs,u',n'):=hmk2
    rw[h3]
   have hro : ∀ r∈bJ I.sh (I.fn.results.toList.map (dC E σ'))++bJ I.bx cs,∃ y1,nu tab.length σ'.res r y1:=by
    intro r hr
    rcases W1.1 hr with hr | hr
    ·exact FS I.sh _ x hx r hr
    ·obtain⟨e,t,xs,b,hg⟩:=(pQ I.bx).2 _ y hy r hr
     exact⟨_,.inl ⟨e,t,xs,b,rfl,hg⟩⟩
   have hget2 : ∀ r∈bJ I.sh (I.fn.results.toList.map (dC E σ'))++bJ I.bx cs,bo (ay σ'.res) (freeze σ'.res (dF.go I.sh (I.fn.results.toList.map (dC E σ'))++dF.go I.bx cs)) r=ay σ'.res r:=fun r hr=>hsame r (fun h=>ln hmeet r hr h)
   have hrows : ∀ m w1,iY (u++u') m=some w1 → ∃(i r:Nat),m=N+i∧(bJ I.sh (I.fn.results.toList.map (dC E σ'))++bJ I.bx cs)[i]? = some r∧nu tab.length σ'.res r w1:=by
    intro m w1 h
    rcases FT h with h | h
    ·have hu1:u=(aF.go I.sh x N).2.1:=by
      have h3:aF.go I.sh x N=(vs,u,n):=hmk1
      rw[h3]
     have hu2:u'=(aF.go I.bx y n).2.1:=by
      have h3:aF.go I.bx y n=(bs,u',n'):=hmk2
      rw[h3]
     rcases W1.1 h with h | h
     ·rw[hu1] at h
      obtain⟨i,r,y1,h1,h2,h3⟩:=DF I.sh _ x N hx _ h
      cases h1
      exact⟨i,r,rfl,(X8 (U0.1 h2).1).trans h2,h3⟩
     ·rw[hu2] at h
      obtain⟨i,r,e,t,xs,b,h1,h2,h3⟩:=(nT I.bx).2 _ y n hy _ h
      cases h1
      refine⟨(bJ I.sh (I.fn.results.toList.map (dC E σ'))).length+i,r,by rw[hcnt1,Z8],?_,.inl ⟨e,t,xs,b,rfl,h3⟩⟩
      rw[Z3 (by omega),cv_]
      exact h2
    ·cases h
   have hinj : ∀(i i' r:Nat),(bJ I.sh (I.fn.results.toList.map (dC E σ'))++bJ I.bx cs)[i]? = some r→(bJ I.sh (I.fn.results.toList.map (dC E σ'))++bJ I.bx cs)[i']? = some r→i=i':=by
    intro i i' r h h'
    exact(List.getElem?_inj (U0.1 h).1 hnd).1 (h.trans h'.symm)
   have hblk : ∀(i r:Nat) (y:aP),(bJ I.sh (I.fn.results.toList.map (dC E σ'))++bJ I.bx cs)[i]? = some r→bj (fun m=>if N≤m then((bJ I.sh (I.fn.results.toList.map (dC E σ'))++bJ I.bx cs)[m - N]?).bind γ' else none) (N+i) y=bj γ' r y:=by
    intro i r y h
    have:=hnumb i r h
    cases y <;> simp only[bj,this]
   have hbox:=nU (γ:=γ') (γr:=fun m=>if N≤m then((bJ I.sh (I.fn.results.toList.map (dC E σ'))++bJ I.bx cs)[m - N]?).bind γ' else none) hR2 hT2 tab I.bx cs y n ub hcs hy (by rw[←hbs]; exact hub) (fun r hr=>al_ _ hr) (by rw[hcnt1]; exact hnumb.right)
   have hboxγ : ∀(j:Nat) (t:Ty) (c':SV),ub[j]? = some (some (.box t c')) → ∃ c1,ay σ'.res j=some (.box t c1)∧γ' j=γ j∧bo (ay σ'.res) (freeze σ'.res (dF.go I.sh (I.fn.results.toList.map (dC E σ'))++dF.go I.bx cs)) j=some (.box t c1) ∧ ∀ cells,RT (Ln Pr2 w') γ' t c1 cells→RT (Ln Pr2 w') (fun m=>if N≤m then((bJ I.sh (I.fn.results.toList.map (dC E σ'))++bJ I.bx cs)[m - N]?).bind γ' else none) t c' cells:=by
    intro j t c' hj
    obtain⟨key,c1,c0,h1,h2,h3⟩:=hbox j t c' hj
    have hkj:key=j:=hcanon j _ h1
    subst hkj
    have hjl:key < tab.length:=(U0.1 h1).1
    refine⟨c1,h2,hA.low key (by rw[hn0']; exact hjl),?_,h3⟩
    rw[hkeep key (fun e t xs b h=>by rw[h2] at h; cases h)]
    exact h2
   refine⟨fun m=>if N≤m then((bJ I.sh (I.fn.results.toList.map (dC E σ'))++bJ I.bx cs)[m - N]?).bind γ' else none,Pr2,rfl,?_,?_⟩
   rotate_left
   ·intro p hp
    rw[hbs] at hp
    have h1:=lr (γ:=γ') (γr:=fun m=>if N≤m then((bJ I.sh (I.fn.results.toList.map (dC E σ'))++bJ I.bx cs)[m - N]?).bind γ' else none) tab I.bx cs y n hcs hy (by rw[hcnt1]; exact hnumb.right) p hp
    rw[←hbs] at hp
    obtain⟨j,q,h2,h3,_⟩:=gc hub p hp
    have h4:p.2 < tab.length:=by
     rw[←h3,hcanon j q h2]
     exact(U0.1 h2).1
    rw[←hA.low p.2 (by rw[hn0']; exact h4)]
    exact h1
   constructor
   case vals =>
    rw[hvs]
    exact FR hR2 hT2 I.sh _ vals x N (eY hL2 (fun _ _ h=>h) hvals) hx (fun r hr=>ap_ _ hr) hnumb.left
   case lim =>
    intro r g hr
    split at hr
    ·rename_i hNr
     rw[S7] at hr
     obtain⟨s,hs,hγ⟩:=hr
     have hsl:=(U0.1 hs).1
     refine⟨⟨hNr,by rw[hcnt2]; omega⟩,?_⟩
     obtain⟨_,⟨e,t,xs,b,rfl,hrow⟩ | ⟨t,c,x1,rfl,_,hrow,_⟩⟩:=hro s (W4 hs)
     ·obtain⟨v,css,hv,_⟩:=hA.inv.res s _ hrow
      rw[hγ] at hv
      cases hv
      obtain⟨A,m,c,rfl⟩:=hA.inv.gs _ _ _ _ hγ
      exact .inl ⟨e,t,A,m,c,rfl⟩
     ·obtain⟨b,arr,T,hv,_⟩:=hA.inv.res s _ hrow
      rw[hγ] at hv
      cases hv
      exact .inr ⟨b,t,rfl,hA.inv.wfs _ _ _ hγ⟩
    ·cases hr
   case box =>
    intro j t c' hj
    obtain⟨c1,h1,h2,h3,h4⟩:=hboxγ j t c' hj
    obtain⟨b,arr,T,h5,h6,h7⟩:=hI2.res j _ h3
    exact⟨b,arr,T,by rw[←h2]; exact h5,h6,h7.map h4⟩
   case row =>
    intro m w1 h
    obtain⟨i,r,rfl,h1,h2⟩:=hrows m w1 h
    have hil:=(U0.1 h1).1
    refine⟨by omega,by rw[hcnt2]; omega,?_⟩
    rcases h2 with⟨e,t,xs,b,rfl,h2⟩ | ⟨t,c,x1,rfl,_,h2,h7⟩
    ·obtain⟨v,css,h3,h4,h5,h6⟩:=hI2.res r _ ((hget2 r (W4 h1)).trans h2)
     exact⟨v,css,(hnumb i r h1).trans h3,h4,h5,h6⟩
    ·obtain⟨b,arr,T,h3,h4,h5⟩:=hI2.res r _ ((hget2 r (W4 h1)).trans h2)
     refine⟨b,arr,T,(hnumb i r h1).trans h3,h4,h5.map fun cs h5 => ?_⟩
     have hk:=pK (L:=Ln Pr2 w') (γ:=γ') (res:=[]) (P:=fun _=>True) (fun r e t xs _ hh=>by rcases hh with⟨_,hh⟩ | hh <;> cases hh) 9 9 (T7 _) (fun _ _=>trivial) h5 h7
     exact rg (.val hk) fun u hu=>by
      subst hu
      exact sT (hI2.wfs _ _ _ h3)
   case apart =>
    intro m m' y1 y2 b h h' hne hb
    obtain⟨i,r,rfl,h1,hh2⟩:=hrows m y1 h
    obtain⟨i',r',rfl,h1',hh2'⟩:=hrows m' y2 h'
    obtain⟨y1',h2,hbb,_⟩:=hh2.old
    obtain⟨y2',h2',hbb',_⟩:=hh2'.old
    rw[hblk i r _ h1,←hbb] at hb
    rw[hblk i' r' _ h1',←hbb']
    refine hI2.apart r r' y1' y2' b ((hget2 r (W4 h1)).trans h2) ((hget2 r' (W4 h1')).trans h2') (fun e=>hne ?_) hb
    subst e
    rw[hinj i i' r h1 h1']
   case beside =>
    intro j t c' b hj hγj m y1 h hb
    obtain⟨c1,h1,h2,h3,h4⟩:=hboxγ j t c' hj
    obtain⟨i,r,rfl,h5,hh6⟩:=hrows m y1 h
    have hjl:j < tab.length:=by
     rw[←(gt hub).1]
     exact(U0.1 hj).1
    have hne:r≠j:=by
     rintro rfl
     rcases hh6 with⟨e,t',xs,b',rfl,h6⟩ | ⟨t',c2,x1,rfl,h6,_⟩
     ·rw[h6] at h1
      cases h1
     ·omega
    obtain⟨y1',h6,hbb,_⟩:=hh6.old
    rw[hblk i r _ h5,←hbb] at hb
    exact hI2.apart r j _ _ b ((hget2 r (W4 h5)).trans h6) h3 hne hb (by simp[bj,h2,hγj])
   case boxLoose =>
    intro j t c' b hj hγj o ho
    obtain⟨c1,h1,h2,h3,h4⟩:=hboxγ j t c' hj
    exact hI2.loose j _ b h3 (by simp[bj,h2,hγj]) o ho
   case rowLoose =>
    intro m y1 b h hb o ho
    obtain⟨i,r,rfl,h1,hh2⟩:=hrows m y1 h
    obtain⟨y1',h2,hbb,hml⟩:=hh2.old
    rw[hblk i r _ h1,←hbb] at hb
    exact hml o (hI2.loose r _ b ((hget2 r (W4 h1)).trans h2) hb o ho)
   case where_ =>
    intro m y1 b h hb
    obtain⟨i,r,rfl,h1,hh2⟩:=hrows m y1 h
    obtain⟨y1',h2,hbb,_⟩:=hh2.old
    rw[hblk i r _ h1,←hbb] at hb
    exact hI2.where_ r _ b ((hget2 r (W4 h1)).trans h2) hb
   case frame=>exact hI2.frame
   case size=>exact hI2.size
   case os=>exact hI2.os
   case tape=>exact hI2.tape
   case output=>exact hI2.output
   case prIn=>exact hI2.prIn
   case prOld=>exact hI2.prOld
   case lean=>exact hI2.pr0
  ·cases hfin
 exact⟨key,key⟩
theorem L4 {Gp:WP} (hst:AR Gp) (hm:P.follows .mixedOrders=true) (hE:d7 P E) (hP:sW Gp P E) : ∀ k,ig Gp P E (dH E (run E k)):=by
 intro k
 induction k using Nat.strongRecOn with
 | _ k ih=>exact FU hE hP fun w0 X hG=>Qy hm hE k (fun j hj=>(ih j hj).weaken fun w X' hf=>hst w0 X w X' hG hf) k (T7 _)
end
end Go.Proofs.YtfffplonjaigkaaGreatDoor.Abs
namespace Go.Proofs.YtfffplonjaigkaaGreatDoor.Abs
open Go Go.RowKit
theorem pv {α:Type} : ∀ {l:List (Nat×α)} {k:Nat} {v:α},cD l k=some v→(k,v)∈l
 | [],_,_,h=>by cases h
 | (i,x) :: l,k,v,h=>by
  unfold cD at h
  split at h
  ·rename_i hb
   cases h
   rw[W2 hb]
   simp
  ·exact T8 _ (pv h)
def J7:Value→Value→Bool
 | .int k n,.int k' m=>decide (k=k') && decide (n=m)
 | .bool a,.bool b=>a == b
 | .string s,.string t=>decide (s.data.toList=t.data.toList)
 | .slice none 0 0,.slice none 0 0=>true
 | .nilIface,.nilIface=>true
 | .nilFunc,.nilFunc=>true
 | .pointer none,.pointer none=>true
 | _,_=>false
theorem N8 {a b:Value} (h:J7 a b=true):a=b:=by
 unfold J7 at h
 split at h
 ·simp only[S8,T0] at h
  rw[h.1,h.2]
 ·rw[eq_of_beq h]
 ·have h':=X7 h
  rename_i s t
  cases s
  cases t
  exact T4 (fun d=>Value.string ⟨d⟩) (ab_.1 h')
 ·rfl
 ·rfl
 ·rfl
 ·rfl
 ·cases h
def A3:List Value→List Value→Bool
 | [],[]=>true
 | a :: l,b :: m=>J7 a b && A3 l m
 | _,_=>false
theorem DG : ∀ {l m:List Value},A3 l m=true→l=m
 | [],[],_=>rfl
 | a :: l,b :: m,h=>by
  simp only[A3,S8] at h
  rw[N8 h.1,DG h.2]
 | [],_ :: _,h=>by cases h
 | _ :: _,[],h=>by cases h
def QB (T:TypeId):Ty→Bool
 | .agg (.pair (.bp T') _)=>Y3 T T'
 | _=>true
theorem PB {T:TypeId} {t:Ty} (h:QB T t=true) : ∀ T' s,t = .agg (.pair (.bp T') s)→T=T':=by
 rintro T' s rfl
 exact W2 h
def ye (P:Program) (T:TypeId) (t:Ty):Bool:=match P.info? T,P.underlying T with
 | some i,some d=>Y3 i.size t.sz && (match i.zero with | some z=>A3 z.cells.toList (zc t) | none=>false) && (NL d == lJ t) && cJ false t && QB T t
 | _,_=>false
theorem ur {P:Program} {T:TypeId} {t:Ty} (h:ye P T t=true):eb P T t:=by
 unfold ye at h
 split at h
 ·rename_i i d hi hd
  simp only[S8] at h
  obtain⟨⟨⟨⟨h1,h2⟩,h3⟩,h4⟩,h5⟩:=h
  split at h2
  ·rename_i z hz
   exact⟨⟨i,hi,W2 h1,z,hz,DG h2⟩,⟨d,hd,eq_of_beq h3⟩,h4,PB h5⟩
  ·cases h2
 ·cases h
def yf (P:Program):List Field→Ty→Nat→Bool
 | [],.unit,_=>true
 | f :: fs,.pair a b,o=>Y3 f.offset o && !(f.name == "_") && Nat.blt 0 a.sz && ye P f.type a && yf P fs b (o+a.sz)
 | _,_,_=>false
theorem A4 {P:Program} : ∀ {fs:List Field} {t:Ty} {o:Nat},yf P fs t o=true→IR P fs t o
 | [],.unit,_,_=>trivial
 | f :: fs,.pair a b,o,h=>by
  simp only[yf,S8,az_] at h
  obtain⟨⟨⟨⟨h1,h2⟩,h3⟩,h4⟩,h5⟩:=h
  exact⟨W2 h1,fun e=>(by rw[e] at h2; simp at h2),(by simpa[Nat.blt_eq] using h3),ur h4,A4 h5⟩
 | [],.int _,_,h=>by cases h
 | [],.bool,_,h=>by cases h
 | [],.err,_,h=>by cases h
 | [],.fn,_,h=>by cases h
 | [],.pt,_,h=>by cases h
 | [],.bp _,_,h=>by cases h
 | [],.str,_,h=>by cases h
 | [],.pair _ _,_,h=>by cases h
 | [],.agg _,_,h=>by cases h
 | [],.slice _ _,_,h=>by cases h
 | _ :: _,.int _,_,h=>by cases h
 | _ :: _,.bool,_,h=>by cases h
 | _ :: _,.err,_,h=>by cases h
 | _ :: _,.fn,_,h=>by cases h
 | _ :: _,.pt,_,h=>by cases h
 | _ :: _,.bp _,_,h=>by cases h
 | _ :: _,.str,_,h=>by cases h
 | _ :: _,.unit,_,h=>by cases h
 | _ :: _,.agg _,_,h=>by cases h
 | _ :: _,.slice _ _,_,h=>by cases h
def FV (P:Program) (T:TypeId) (t:Ty):Bool:=match P.underlying T,t with
 | some (.int k),.int k'=>decide (k=k')
 | some .bool,.bool=>true
 | some .string,.str=>true
 | some (.slice e),.slice e' t=>Y3 e e' && ye P e t && Nat.blt 0 t.sz && (!decide (t = .int .u8) || (match P.underlying e with | some (.int .u8)=>true | _=>false))
 | some (.struct fs),.agg t=>yf P fs.toList t 0
 | some (.interface _),.err=>true
 | some _,.fn=>true
 | some _,.pt=>true
 | some _,.bp _=>true
 | _,_=>false
theorem L5 {P:Program} {T:TypeId} {t:Ty} (h:FV P T t=true):jJ P T t:=by
 unfold FV at h
 split at h
 ·rename_i k k' hu
  rw[X7 h] at hu
  exact hu
 ·rename_i hu
  exact hu
 ·rename_i hu
  exact hu
 ·rename_i e e' t hu
  simp only[S8] at h
  obtain⟨⟨⟨h1,h2⟩,h3⟩,h4⟩:=h
  have:=W2 h1
  subst this
  refine⟨hu,ur h2,(by simpa[Nat.blt_eq] using h3),fun ht => ?_⟩
  simp only[ht,decide_true,V6,Bool.false_or] at h4
  split at h4
  ·assumption
  ·cases h4
 ·rename_i fs t hu
  exact⟨fs,hu,A4 h⟩
 ·rename_i ms hu
  exact⟨ms,hu⟩
 ·trivial
 ·trivial
 ·trivial
 ·cases h
def J8 (P:Program) (g:TypeId→Ty→Bool):List Field→Ty→Nat→Bool
 | [],.unit,_=>true
 | f :: fs,.pair a b,o=>Y3 f.offset o && !(f.name == "_") && ye P f.type a && g f.type a && J8 P g fs b (o+a.sz)
 | _,_,_=>false
def kW (P:Program):Nat→TypeId→Ty→Bool
 | 0,_,_=>false
 | _+1,T,.int _=>match P.underlying T with | some (.int _)=>true | _=>false
 | _+1,T,.bool=>match P.underlying T with | some .bool=>true | _=>false
 | _+1,T,.str=>match P.underlying T with | some .string=>true | _=>false
 | d+1,T,.agg t=>match P.underlying T with
  | some (.struct fs) => !(P.stoodInHeld T) && J8 P (kW P d) fs.toList t 0
  | _=>false
 | _,_,_=>false
theorem I6 {P:Program} {g:TypeId→Ty→Bool} {L:Lk} {d:Nat} {w:World} (hg : ∀ T t,g T t=true → ∀(x y:t.den) (cs ds:List Value),RK L t x cs→RK L t y ds→(Op.equalIn d T (mk t cs) (mk t ds)).run P w = .ok (bV t x y) w) :
  ∀ {fs:List Field} {t:Ty} {o:Nat},J8 P g fs t o=true → ∀ {x y:t.den} {cs ds xs ys:List Value},RK L t x cs→RK L t y ds→dw cs xs o→dw ds ys o→(Op.eqFields d xs.toArray ys.toArray fs).run P w = .ok (bV t x y) w
 | [],.unit,_,_,_,_,_,_,_,_,_,_,_,_=>rfl
 | f :: fs,.pair a b,o,h,x,y,cs,ds,xs,ys,hx,hy,hsx,hsy=>by
  simp only[J8,S8,az_] at h
  obtain⟨⟨⟨⟨h1,h2⟩,h3⟩,h4⟩,h5⟩:=h
  have h1:=W2 h1
  have hn:f.name ≠ "_" := fun e=>by rw[e] at h2; simp at h2
  have hi:=ur h3
  obtain⟨c1,d1,rfl,hx1,hx2⟩:=hx
  obtain⟨c2,d2,rfl,hy1,hy2⟩:=hy
  have p1:=Cp hi (dv hx1) ((dw.left c1 d1).trans hsx) w
  have p2:=Cp hi (dv hy1) ((dw.left c2 d2).trans hsy) w
  rw[au_] at p1 p2
  have s1:=(dw.right c1 d1).trans hsx
  have s2:=(dw.right c2 d2).trans hsy
  rw[dv hx1] at s1
  rw[dv hy1] at s2
  have ih:=I6 hg h5 hx2 hy2 s1 s2
  have h6:=hg f.type a h4 x.1 y.1 c1 c2 hx1 hy1
  simp only[Op.eqFields,S6 hn,h1,U5,p1,p2,T6,h6]
  show _=Result.ok (bV a x.1 y.1 && bV b x.2 y.2) w
  cases bV a x.1 y.1 with
  | false=>simp
  | true =>
   simp only[V6,Bool.false_eq_true,if_false,Bool.true_and]
   exact ih
 | [],.int _,_,h,_,_,_,_,_,_,_,_,_,_=>by cases h
 | [],.bool,_,h,_,_,_,_,_,_,_,_,_,_=>by cases h
 | [],.err,_,h,_,_,_,_,_,_,_,_,_,_=>by cases h
 | [],.fn,_,h,_,_,_,_,_,_,_,_,_,_=>by cases h
 | [],.pt,_,h,_,_,_,_,_,_,_,_,_,_=>by cases h
 | [],.bp _,_,h,_,_,_,_,_,_,_,_,_,_=>by cases h
 | [],.str,_,h,_,_,_,_,_,_,_,_,_,_=>by cases h
 | [],.pair _ _,_,h,_,_,_,_,_,_,_,_,_,_=>by cases h
 | [],.agg _,_,h,_,_,_,_,_,_,_,_,_,_=>by cases h
 | [],.slice _ _,_,h,_,_,_,_,_,_,_,_,_,_=>by cases h
 | _ :: _,.int _,_,h,_,_,_,_,_,_,_,_,_,_=>by cases h
 | _ :: _,.bool,_,h,_,_,_,_,_,_,_,_,_,_=>by cases h
 | _ :: _,.err,_,h,_,_,_,_,_,_,_,_,_,_=>by cases h
 | _ :: _,.fn,_,h,_,_,_,_,_,_,_,_,_,_=>by cases h
 | _ :: _,.pt,_,h,_,_,_,_,_,_,_,_,_,_=>by cases h
 | _ :: _,.bp _,_,h,_,_,_,_,_,_,_,_,_,_=>by cases h
 | _ :: _,.str,_,h,_,_,_,_,_,_,_,_,_,_=>by cases h
 | _ :: _,.unit,_,h,_,_,_,_,_,_,_,_,_,_=>by cases h
 | _ :: _,.agg _,_,h,_,_,_,_,_,_,_,_,_,_=>by cases h
 | _ :: _,.slice _ _,_,h,_,_,_,_,_,_,_,_,_,_=>by cases h
theorem I7 {P:Program} {L:Lk} {w:World} : ∀(n:Nat) (T:TypeId) (t:Ty),kW P n T t=true → ∀(d:Nat) (x y:t.den) (cs ds:List Value),RK L t x cs→RK L t y ds→(Op.equalIn (d+n) T (mk t cs) (mk t ds)).run P w = .ok (bV t x y) w
 | 0,_,_,h=>by simp[kW] at h
 | n+1,T,.int k,h=>fun d x y cs ds hx hy=>by
  rw[show cs=_ from hx,show ds=_ from hy]
  unfold kW at h
  split at h
  ·rename_i k' hu
   exact run_equalIn_int w (d+n) T k k' x y hu
  ·cases h
 | n+1,T,.bool,h=>fun d x y cs ds hx hy=>by
  rw[show cs=_ from hx,show ds=_ from hy]
  unfold kW at h
  split at h
  ·rename_i hu
   exact run_equalIn_bool' w (d+n) T x y hu
  ·cases h
 | n+1,T,.str,h=>fun d x y cs ds hx hy=>by
  rw[show cs=_ from hx,show ds=_ from hy]
  unfold kW at h
  split at h
  ·rename_i hu
   refine(run_equalIn_string w (d+n) T x y hu).trans ?_
   rw[←beq_toListBytes]
   rfl
  ·cases h
 | n+1,T,.agg t,h=>fun d x y cs ds hx hy=>by
  unfold kW at h
  split at h
  ·rename_i fs hu
   simp only[S8,az_] at h
   have hf:P.fieldsOf T=fs:=by simp[Program.fieldsOf,hu]
   have hu':P.underlying T=some (.struct (P.fieldsOf T)):=by rw[hf]; exact hu
   refine(run_equalIn_agg w (d+n) T cs.toArray ds.toArray hu' h.1).trans ?_
   rw[hf]
   exact I6 (fun T t hT x y cs ds hx hy=>I7 n T t hT d x y cs ds hx hy) h.2 (t:=t) hx hy (dw.refl cs) (dw.refl ds)
  ·cases h
 | n+1,T,.unit,h=>by simp[kW] at h
 | n+1,T,.err,h=>by simp[kW] at h
 | n+1,T,.fn,h=>by simp[kW] at h
 | n+1,T,.pt,h=>by simp[kW] at h
 | n+1,T,.bp _,h=>by simp[kW] at h
 | n+1,T,.pair _ _,h=>by simp[kW] at h
 | n+1,T,.slice _ _,h=>by simp[kW] at h
def N9 (P:Program) (E:ce):Bool:=E.eqs.all fun p=>lJ p.2 && !(P.eqGuardType P.depth p.1) && kW P 8 p.1 p.2
theorem PC {P:Program} {E:ce} (h:N9 P E=true) : ∀ T t,cD E.eqs T=some t→Qq P T t:=by
 intro T t hT
 unfold N9 at h
 rw[Z2] at h
 have:=h (T,t) (pv hT)
 simp only[S8,az_] at this
 refine⟨?_,this.1.2,fun L x y cs ds w hx hy=>I7 8 T t this.2 9992 x y cs ds hx hy⟩
 cases t <;> first | exact⟨_,rfl⟩ | cases this.1.1
def L6 (P:Program) (E:ce):Bool:=N9 P E && (E.ty.all fun p=>FV P p.1 p.2 && ye P p.1 p.2) && E.by_.all fun p=>Nat.blt 0 p.2 && (match P.info? p.1 with | some i=>Y3 i.bytes p.2 | none=>true)
theorem Oa {P:Program} {E:ce} (h:L6 P E=true) (hf : ∀ p∈E.fns,P.funcs[p.2.g]? = some p.2.fn∧p.2.fn.body.isSome=true∧(p.2.fn.name == "runtime.NumGoroutine")=false):d7 P E:=by
 unfold L6 at h
 simp only[S8,Z2] at h
 obtain⟨⟨hq,h1⟩,h2⟩:=h
 have h:=And.intro h1 h2
 refine⟨fun T t hT => ?_,fun e nb i hb hi => ?_,fun g I hg=>hf (g,I) (pv hg),PC hq⟩
 ·have:=h.1 (T,t) (pv hT)
  exact⟨L5 this.1,ur this.2⟩
 ·have:=h.2 (e,nb) (pv hb)
  simp only[hi] at this
  exact⟨W2 this.2,by simpa[Nat.blt_eq] using this.1⟩
end Go.Proofs.YtfffplonjaigkaaGreatDoor.Abs
namespace Go.Proofs.YtfffplonjaigkaaGreatDoor.Abs
open Go Go.RowKit
section
variable {E:ce} {call call':(I:ap)→List SV→aB→Option (I.sh.den×I.bx.den)}
theorem pR (hc : ∀ I args tab z,call I args tab=some z→call' I args tab=some z) {g key:Nat} {args:List SV} {res:aB} {r0:Nat} {p:SV×Up} (h:eO E call g key args res r0 cd=some p):eO E call' g key args res r0 cd=some p:=by
 unfold eO at h ⊢
 cases hI:cD E.fns key with
 | none=>rw[hI] at h; cases h
 | some I =>
  simp only[hI] at h ⊢
  cases hg:Y3 I.g g with
  | false=>rw[hg] at h; cases h
  | true =>
   simp only[hg] at h ⊢
   cases hv:pG res (I.fn.params.toList.map fun T=>cD E.ty T) I.own args with
   | none=>rw[hv] at h; cases h
   | some q =>
    obtain⟨args',fr⟩:=q
    simp only[hv] at h ⊢
    split at h
    ·rename_i h1 h2 h3
     rw[S7] at h
     obtain⟨z,hz,h⟩:=h
     rw[S7]
     exact⟨z,hc _ _ _ _ hz,h⟩
    ·cases h
theorem HV (hc : ∀ I args tab z,call I args tab=some z→call' I args tab=some z) {g:Nat} {args:List SV} {res:aB} {r0:Nat} {p:SV×Up} (h:ga E call g args res r0 cd=some p):ga E call' g args res r0 cd=some p:=by
 unfold ga at h ⊢
 split at h
 ·exact pR hc h
 ·rename_i s hs
  rw[S7] at h ⊢
  obtain⟨b,hb,h⟩:=h
  refine⟨b,hb,?_⟩
  split at h
  ·rename_i hb'
   rw[S6 hb']
   exact pR hc h
  ·rename_i hb'
   rw[S4 hb']
   exact pR hc h
theorem L7 (hc : ∀ I args tab z,call I args tab=some z→call' I args tab=some z) {o:Oper} {vs:List SV} {res:aB} {r0:Nat} {p:SV×Up} (h:cf E call o vs res r0 cd=some p):cf E call' o vs res r0 cd=some p:=by
 obtain⟨dst,op,ty,pos,after,guard⟩:=o
 cases op
 case call c =>
  obtain⟨callee,args,argTypes⟩:=c
  cases callee with
  | value f =>
   rcases vs with _ | ⟨v1,vs⟩
   ·cases h
   ·cases v1 with
    | fn g caps =>
     rcases vs with _ | ⟨v2,_ | ⟨v3,vs⟩⟩ <;> exact HV hc h
    | _=>rcases vs with _ | ⟨v2,_ | ⟨v3,vs⟩⟩ <;> cases h
  | _=>rcases vs with _ | ⟨v1,_ | ⟨v2,_ | ⟨v3,vs⟩⟩⟩ <;> exact h
 case makeFunc fn first captured=>cases fn <;> rcases vs with _ | ⟨v1,_ | ⟨v2,_ | ⟨v3,vs⟩⟩⟩ <;> exact h
 all_goals rcases vs with _ | ⟨v1,_ | ⟨v2,_ | ⟨v3,_ | ⟨v4,vs⟩⟩⟩⟩ <;> exact h
theorem J9 (hc : ∀ I args tab z,call I args tab=some z→call' I args tab=some z) {R R':Type} {K:SV→Up→Option R} {K':SV→Up→Option R'} {z:R} {z':R'} (hK : ∀ v u,K v u=some z→K' v u=some z') {o:Oper} {vs:List SV} {res:aB} {r0:Nat} (h:cf E call o vs res r0 K=some z):cf E call' o vs res r0 K'=some z':=by
 obtain⟨v,u,h1,h2⟩:=wv h
 rw[Ft,L7 hc h1]
 exact hK v u h2
theorem rU (hc : ∀ I args tab z,call I args tab=some z→call' I args tab=some z) {R:Type} {K K':St→Option R} {z:R} (hK : ∀ σ,K σ=some z→K' σ=some z) {all:Array Oper} {draw:Bool} {base:Nat} :
  ∀ {l:List (Nat×Oper)} {g:List wu} {σ:St},ch E call all draw base l g σ K=some z→ch E call' all draw base l g σ K'=some z
 | [],g,σ,h=>by
  unfold ch at h ⊢
  cases draw with
  | false=>exact hK σ h
  | true =>
   simp only at h ⊢
   split at h
   ·rename_i h1 h2
    exact hK σ h
   ·cases h
 | (i,o) :: l,g,σ,h=>by
  have act : ∀(σ:St) (b:Bool),(match b with
   | true=>cf E call o ((cU o.op).map (ev σ.slots)) (eX σ.res (jG o σ.res ((cU o.op).map (ev σ.slots)))) (base+64*i) fun v u=>match pI (base+64*i) (jG o σ.res ((cU o.op).map (ev σ.slots))) u with
    | true=>ch E call all draw base l ({i,see:=jG o σ.res ((cU o.op).map (ev σ.slots)),turn:=u.map (·.1)} :: g) (kT σ o.dst v u) K
    | false=>none
   | false=>ch E call all draw base l ({i,see:=[],turn:=[]} :: g) (kT σ o.dst (.tup []) []) K)=some z →
   (match b with
   | true=>cf E call' o ((cU o.op).map (ev σ.slots)) (eX σ.res (jG o σ.res ((cU o.op).map (ev σ.slots)))) (base+64*i) fun v u=>match pI (base+64*i) (jG o σ.res ((cU o.op).map (ev σ.slots))) u with
    | true=>ch E call' all draw base l ({i,see:=jG o σ.res ((cU o.op).map (ev σ.slots)),turn:=u.map (·.1)} :: g) (kT σ o.dst v u) K'
    | false=>none
   | false=>ch E call' all draw base l ({i,see:=[],turn:=[]} :: g) (kT σ o.dst (.tup []) []) K')=some z:=by
   intro σ b h
   cases b with
   | true =>
    refine J9 hc (fun v u hh => ?_) h
    split at hh
    ·exact rU hc hK hh
    ·cases hh
   | false=>exact rU hc hK h
  unfold ch at h ⊢
  dsimp only at h ⊢
  split at h
  ·exact act σ true h
  ·rename_i j want hg
   split at h
   ·rename_i d hd
    split at h
    ·split at h
     ·rename_i hx
      rw[S6 hx]
      exact act {σ with slots:=cH σ.slots d (.val .bool true)} (true == want) h
     ·rename_i hx
      rw[S4 hx]
      exact act {σ with slots:=cH σ.slots d (.val .bool false)} (false == want) h
    ·exact act σ false h
    ·cases h
   ·cases h
theorem zF (E:ce) : ∀ {k m:Nat},k≤m → ∀ {I:ap} {R:Type} {K K':St→Option R} {c:Code} {S:List Fr} {σ:St} {z:R},(∀ σ,K σ=some z→K' σ=some z)→run E k I K c S σ=some z→run E m I K' c S σ=some z
 | 0,_,_,_,_,_,_,_,_,_,_,_,h=>by cases h
 | k+1,0,hle,_,_,_,_,_,_,_,_,_,_=>V2 hle (by omega)
 | k+1,m+1,hle,I,R,K,K',c,S,σ,z,hK,h=>by
  have ih : ∀ {I:ap} {R:Type} {K K':St→Option R} {c:Code} {S:List Fr} {σ:St} {z:R},(∀ σ,K σ=some z→K' σ=some z)→run E k I K c S σ=some z→run E m I K' c S σ=some z:=fun hK h=>zF E (Nat.le_of_succ_le_succ hle) hK h
  have ihp : ∀ {S:List Fr} {σ:St},pJ (run E k) I K S σ=some z→pJ (run E m) I K' S σ=some z:=by
   intro S σ h
   cases S with
   | nil=>exact hK σ h
   | cons f S=>cases f <;> exact ih hK h
  have ihc : ∀ I args tab z,dH E (run E k) I args tab=some z→dH E (run E m) I args tab=some z:=fun I args tab z h=>by
   unfold dH at h ⊢
   split at h
   ·exact h
   ·exact ih (fun σ h=>h) h
  rw[kV] at h ⊢
  unfold ot at h ⊢
  split at h
  ·exact ihp h
  ·dsimp only at h ⊢
   exact rU ihc (fun σ' h'=>ihp h') h
  ·exact ih hK h
  ·split at h
   ·split at h
    ·rename_i hx
     rw[S6 hx]
     exact ih hK h
    ·rename_i hx
     rw[S4 hx]
     exact ih hK h
   ·cases h
  ·exact ih hK h
  ·exact ih hK h
  ·split at h
   ·exact ih hK h
   ·cases h
  ·exact hK σ h
  ·cases h
end
theorem L8 {E:ce} {k m:Nat} (hm:k≤m) {I:ap} {args:List SV} {tab:aB} {z:I.sh.den×I.bx.den} (h:call E k I args tab=some z):call E m I args tab=some z:=by
 unfold call dH at h ⊢
 split at h
 ·exact h
 ·exact zF E hm (fun _ h=>h) h
end Go.Proofs.YtfffplonjaigkaaGreatDoor.Abs
namespace Go.Proofs.YtfffplonjaigkaaGreatDoor.Abs
open Go Go.RowKit
def Ev {R:Type} (f:Nat→Option R) (z:R):Prop := ∃ k0,∀ k,k0≤k→f k=some z
section
variable {R R':Type} {f:Nat→Option R} {z:R}
theorem Ev.now:Ev (fun _=>some z) z:=⟨0,fun _ _=>rfl⟩
theorem Ev.later (h:Ev f z) (c:Nat):Ev (fun k=>f (k+c)) z:=by
 obtain⟨k0,h⟩:=h
 exact⟨k0,fun k hk=>h _ (by omega)⟩
theorem Ev.eqn {g:Nat→Option R} (c:Nat) (he : ∀ k,f (k+c)=g k) (h:Ev g z):Ev f z:=by
 obtain⟨k0,h⟩:=h
 refine⟨k0+c,fun k hk => ?_⟩
 have:=he (k - c)
 rw[show k - c+c=k by omega] at this
 rw[this]
 exact h _ (by omega)
theorem Ev.bind {g:R→Nat→Option R'} {y:R'} (h:Ev f z) (k:Ev (g z) y):Ev (fun n=>(f n).bind fun x=>g x n) y:=by
 obtain⟨a,h⟩:=h
 obtain⟨b,k⟩:=k
 refine⟨a+b,fun n hn => ?_⟩
 show(f n).bind _=_
 rw[h n (by omega)]
 exact k n (by omega)
theorem Ev.ite {c:Prop} [Decidable c] {g:Nat→Option R} (h1:c→Ev f z) (h2 : ¬c→Ev g z):Ev (fun k=>if c then f k else g k) z:=by
 by_cases h:c
 ·obtain⟨k0,hk⟩:=h1 h
  exact⟨k0,fun k hh=>by simp only[S6 h]; exact hk k hh⟩
 ·obtain⟨k0,hk⟩:=h2 h
  exact⟨k0,fun k hh=>by simp only[S4 h]; exact hk k hh⟩
theorem Ev.pos {c:Prop} [Decidable c] {g:Nat→Option R} (hc:c) (h1:Ev f z):Ev (fun k=>if c then f k else g k) z:=Ev.ite (fun _=>h1) (fun h=>V2 hc h)
theorem Ev.neg {c:Prop} [Decidable c] {g:Nat→Option R} (hc : ¬c) (h1:Ev g z):Ev (fun k=>if c then f k else g k) z:=Ev.ite (fun h=>V2 h hc) (fun _=>h1)
end
def pT (E:ce) (I:ap) (args:List SV) (tab:aB) (z:I.sh.den×I.bx.den):Prop:=Ev (fun k=>call E k I args tab) z
theorem pT.at_ {E:ce} {I:ap} {args:List SV} {tab:aB} {z:I.sh.den×I.bx.den} (h:pT E I args tab z) : ∃ k,call E k I args tab=some z:=by
 obtain⟨k,h⟩:=h
 exact⟨k,h k (T7 _)⟩
theorem pT.of {E:ce} {I:ap} {args:List SV} {tab:aB} {z:I.sh.den×I.bx.den} {k:Nat} (h:call E k I args tab=some z):pT E I args tab z :=
 ⟨k,fun m hm=>L8 hm h⟩
theorem pT.calls {P:Program} {E:ce} {Gp:WP} (hst:AR Gp) (hm:P.follows .mixedOrders=true) (hE:d7 P E) (hP:sW Gp P E) {I:ap} {args:List SV} {tab:aB} {z:I.sh.den×I.bx.den} (h:pT E I args tab z) {key:Nat} (hg:cD E.fns key=some I) (hcanon : ∀(k:Nat) (p:Nat×aP),tab[k]? = some p→p.1=k)
  {w:World} {γ:Nat→Option G} {Pr:Nat→Nat→Prop} {us:List Value} (hGp:Gp w (iC tab γ)) (hI:bn w (iC tab γ) Pr args (ay tab) γ Pr {tmps:=us.toArray,defers:=[]} w) (hlim : ∀ r,tab.length≤r→γ r=none) {N:Nat} (hN:tab.length≤N) {vs bs:List SV} {u u':Up} {n n':Nat} {ub:List (Option aP)}
  (h1:bG I.sh z.1 N=(vs,u,n)) (h2:bG I.bx z.2 n=(bs,u',n')) (h3:bX I.rb tab bs (nk I.bx)=some ub) :
  Calls P I.g us.toArray w fun e w' => ∃ vals γr Pr',e = .returned (wD vals)∧rS w (iC tab γ) γ Pr N n' vs ub (u++u') vals γr Pr' w' ∧ ∀ p∈cE I.rb tab bs,γr p.1=γ p.2:=by
 obtain⟨k,hk⟩:=h.at_
 exact L4 hst hm hE hP k I args tab z key hg hk hcanon w γ Pr us hGp hI hlim N hN vs u n bs u' n' ub h1 h2 h3
end Go.Proofs.YtfffplonjaigkaaGreatDoor.Abs
namespace Go.Proofs.YtfffplonjaigkaaGreatDoor.Abs
open Go
def kids:Code→List Code
 | .seq a b=>[a,b]
 | .cond _ a b=>[a,b]
 | .block _ a=>[a]
 | .loop a=>[a]
 | _=>[]
def at_:Code→List Nat→Code
 | c,[]=>c
 | c,i :: l=>match kids c,i with
  | a :: _,0=>at_ a l
  | [_,b],1=>at_ b l
  | _,_ => .skip
instance (t:Ty):Inhabited t.den:=⟨t.dflt⟩
def bR (e:TypeId) (t:Ty) (nb:Nat):List SV→aB→Option ((Sh.pair (.row e t false) .unit).den×Sh.unit.den)
 | [.val s xs],[]=>(ef? (t:=s) (.slice e t) xs).bind fun xs=>if(xs:List t.den).length*nb≤140737488355328 then some ((xs,()),()) else none
 | _,_=>none
def d8 (n:Int):S0:=⟨(Lib.itoa n).toArray⟩
def yg:List SV→aB→Option ((Sh.pair (.val .str) .unit).den×Sh.unit.den)
 | [.val (.int .i64) n,.val (.int .i64) b],[]=>if(b:Int)=10 ∧ -9223372036854775808≤(n:Int)∧(n:Int)≤9223372036854775807 then some ((d8 n,()),()) else none
 | _,_=>none
def nV (c:S0):Bool:=decide (c.size≤1000) && c.data.toList.all fun b=>decide (b.toNat < 128)
def lW:List SV→aB→Option ((Sh.pair (.val .str) .unit).den×Sh.unit.den)
 | [.val .str s,.val .str c],[]=>if nV c=true then some ((⟨(Lib.trimLeftS (s:S0).data.toList (c:S0).data.toList).toArray⟩,()),()) else none
 | _,_=>none
def ut:List SV→aB→Option ((Sh.pair (.val .str) .unit).den×Sh.unit.den)
 | [.val .str s,.val .str c],[]=>if nV c=true∧(s:S0).size≤9223372036854775807 then some ((⟨(Lib.trimS (s:S0).data.toList (c:S0).data.toList).toArray⟩,()),()) else none
 | _,_=>none
def yh:List SV→aB→Option ((Sh.pair (.val .str) (.pair (.val .str) (.pair (.val .bool) .unit))).den×Sh.unit.den)
 | [.val .str s,.val .str c],[]=>if(s:S0).size < 4294967281 then some ((⟨(Lib.cut (s:S0).data.toList (c:S0).data.toList).1.toArray⟩,⟨(Lib.cut (s:S0).data.toList (c:S0).data.toList).2.1.toArray⟩,(Lib.cut (s:S0).data.toList (c:S0).data.toList).2.2,()),()) else none
 | _,_=>none
def nv:List SV→aB→Option ((Sh.pair (.val .str) .unit).den×Sh.unit.den)
 | [.val .str s,.val .str a,.val .str b],[]=>if(s:S0).size < 4294967281∧1≤(a:S0).size∧(s:S0).size+Lib.countB s a*(b:S0).size≤140737488355328 then some ((⟨(Lib.replaceAll (s:S0).data.toList (a:S0).data.toList (b:S0).data.toList).toArray⟩,()),()) else none
 | _,_=>none
def uu (e:TypeId):List SV→aB→Option ((Sh.pair (.val .str) .unit).den×Sh.unit.den)
 | [.val t xs,.val .str c],[]=>(ef? (t:=t) (.slice e .str) xs).bind fun xs=>if(xs:List S0).length≤140737488355328∧(Lib.join ((xs:List S0).map (·.data.toList)) (c:S0).data.toList).length≤140737488355328 then some ((⟨(Lib.join ((xs:List S0).map (·.data.toList)) (c:S0).data.toList).toArray⟩,()),()) else none
 | _,_=>none
def b7 (l:List UInt8):Int×Bool:=match Lib.parseIntB 64 l with
 | .ok v=>(v,true)
 | .range=>(Lib.intSat 64 l,false)
 | _=>(0,false)
def lX:List SV→aB→Option ((Sh.pair (.val (.int .i64)) (.pair (.val .err) .unit)).den×Sh.unit.den)
 | [.val .str s,.val (.int .i64) b,.val (.int .i64) n],[]=>if(s:S0).size≤281474976710656∧(b:Int)=10∧(n:Int)=64 then some (((b7 (s:S0).data.toList).1,(b7 (s:S0).data.toList).2,()),()) else none
 | _,_=>none
open Go Go.RowKit
theorem Ev.uniq {R:Type} {f:Nat→Option R} {z z':R} (h:Ev f z) (h':Ev f z'):z=z':=by
 obtain⟨a,h⟩:=h
 obtain⟨b,h'⟩:=h'
 have h1:=h (a+b) (by omega)
 rw[h' (a+b) (by omega)] at h1
 exact(X0 h1).symm
open Classical in
noncomputable def lim {R:Type} (f:Nat→Option R):Option R:=if h : ∃ z,Ev f z then some h.choose else none
theorem Ob {R:Type} {f:Nat→Option R} {z:R}:lim f=some z↔Ev f z:=by
 unfold lim
 constructor
 ·intro h
  split at h
  ·rename_i hz
   have:=hz.choose_spec
   rw[X0 h] at this
   exact this
  ·cases h
 ·intro h
  have hz : ∃ z,Ev f z:=⟨z,h⟩
  rw[dif_pos hz,hz.choose_spec.uniq h]
noncomputable def iZ (E:ce):ka:=fun I _ K c S σ=>lim fun k=>run E k I K c S σ
theorem rj {E:ce} {I:ap} {R:Type} {K:St→Option R} {c:Code} {S:List Fr} {σ:St} {z:R}:iZ E I K c S σ=some z ↔ ∃ k,∀ m,k≤m→run E m I K c S σ=some z:=Ob
theorem I8 {E:ce} {I:ap} {R:Type} {K:St→Option R} {c:Code} {S:List Fr} {σ:St} {z:R} {k:Nat} (h:run E k I K c S σ=some z):iZ E I K c S σ=some z :=
 rj.2 ⟨k,fun m hm=>zF E hm (fun _ h=>h) h⟩
section
variable {E:ce} {call:(I:ap)→List SV→aB→Option (I.sh.den×I.bx.den)} {call':Nat→(I:ap)→List SV→aB→Option (I.sh.den×I.bx.den)}
theorem pU (hc : ∀ I args tab z,call I args tab=some z → ∃ k,∀ m,k≤m→call' m I args tab=some z) {g key:Nat} {args:List SV} {res:aB} {r0:Nat} {p:SV×Up} (h:eO E call g key args res r0 cd=some p) : ∃ k,∀ m,k≤m→eO E (call' m) g key args res r0 cd=some p:=by
 unfold eO at h ⊢
 cases hI:cD E.fns key with
 | none=>rw[hI] at h; cases h
 | some I =>
  simp only[hI] at h ⊢
  cases hg:Y3 I.g g with
  | false=>rw[hg] at h; cases h
  | true =>
   simp only[hg] at h ⊢
   cases hv:pG res (I.fn.params.toList.map fun T=>cD E.ty T) I.own args with
   | none=>rw[hv] at h; cases h
   | some q =>
    obtain⟨args',fr⟩:=q
    simp only[hv] at h ⊢
    split at h
    ·rename_i h1 h2 h3
     rw[S7] at h
     obtain⟨z,hz,h⟩:=h
     obtain⟨k,hk⟩:=hc _ _ _ _ hz
     refine⟨k,fun m hm => ?_⟩
     rw[S7]
     exact⟨z,hk m hm,h⟩
    ·cases h
theorem HW (hc : ∀ I args tab z,call I args tab=some z → ∃ k,∀ m,k≤m→call' m I args tab=some z) {g:Nat} {args:List SV} {res:aB} {r0:Nat} {p:SV×Up} (h:ga E call g args res r0 cd=some p) : ∃ k,∀ m,k≤m→ga E (call' m) g args res r0 cd=some p:=by
 unfold ga at h ⊢
 split at h
 ·exact pU hc h
 ·rename_i s hs
  rw[S7] at h
  obtain⟨b,hb,h⟩:=h
  split at h
  ·rename_i hb'
   obtain⟨k,hk⟩:=pU hc h
   refine⟨k,fun m hm => ?_⟩
   rw[S7]
   refine⟨b,hb,?_⟩
   rw[S6 hb']
   exact hk m hm
  ·rename_i hb'
   obtain⟨k,hk⟩:=pU hc h
   refine⟨k,fun m hm => ?_⟩
   rw[S7]
   refine⟨b,hb,?_⟩
   rw[S4 hb']
   exact hk m hm
theorem L9 (hc : ∀ I args tab z,call I args tab=some z → ∃ k,∀ m,k≤m→call' m I args tab=some z) {o:Oper} {vs:List SV} {res:aB} {r0:Nat} {p:SV×Up} (h:cf E call o vs res r0 cd=some p) : ∃ k,∀ m,k≤m→cf E (call' m) o vs res r0 cd=some p:=by
 obtain⟨dst,op,ty,pos,after,guard⟩:=o
 cases op
 case call c =>
  obtain⟨callee,args,argTypes⟩:=c
  cases callee with
  | value f =>
   rcases vs with _ | ⟨v1,vs⟩
   ·cases h
   ·cases v1 with
    | fn g caps =>
     rcases vs with _ | ⟨v2,_ | ⟨v3,vs⟩⟩ <;> exact HW hc h
    | _=>rcases vs with _ | ⟨v2,_ | ⟨v3,vs⟩⟩ <;> cases h
  | _=>rcases vs with _ | ⟨v1,_ | ⟨v2,_ | ⟨v3,vs⟩⟩⟩ <;> exact⟨0,fun _ _=>h⟩
 case makeFunc fn first captured=>cases fn <;> rcases vs with _ | ⟨v1,_ | ⟨v2,_ | ⟨v3,vs⟩⟩⟩ <;> exact⟨0,fun _ _=>h⟩
 all_goals rcases vs with _ | ⟨v1,_ | ⟨v2,_ | ⟨v3,_ | ⟨v4,vs⟩⟩⟩⟩ <;> exact⟨0,fun _ _=>h⟩
def Ka (E:ce) (call:(I:ap)→List SV→aB→Option (I.sh.den×I.bx.den)) {R:Type} (all:Array Oper) (draw:Bool) (base i:Nat) (o:Oper) (l:List (Nat×Oper)) (g:List wu) (K:St→Option R) (σ:St) (b:Bool):Option R:=match b with
 | true=>cf E call o ((cU o.op).map (ev σ.slots)) (eX σ.res (jG o σ.res ((cU o.op).map (ev σ.slots)))) (base+64*i) fun v u=>match pI (base+64*i) (jG o σ.res ((cU o.op).map (ev σ.slots))) u with
  | true=>ch E call all draw base l ({i,see:=jG o σ.res ((cU o.op).map (ev σ.slots)),turn:=u.map (·.1)} :: g) (kT σ o.dst v u) K
  | false=>none
 | false=>ch E call all draw base l ({i,see:=[],turn:=[]} :: g) (kT σ o.dst (.tup []) []) K
theorem rV (hc : ∀ I args tab z,call I args tab=some z → ∃ k,∀ m,k≤m→call' m I args tab=some z) {R:Type} {K:St→Option R} {K':Nat→St→Option R} {z:R} (hK : ∀ σ,K σ=some z → ∃ k,∀ m,k≤m→K' m σ=some z) {all:Array Oper} {draw:Bool} {base:Nat} :
  ∀ {l:List (Nat×Oper)} {g:List wu} {σ:St},ch E call all draw base l g σ K=some z → ∃ k,∀ m,k≤m→ch E (call' m) all draw base l g σ (K' m)=some z
 | [],g,σ,h=>by
  unfold ch at h ⊢
  cases draw with
  | false=>exact hK σ h
  | true =>
   simp only at h ⊢
   split at h
   ·rename_i h1 h2
    exact hK σ h
   ·cases h
 | (i,o) :: l,g,σ,h=>by
  have act : ∀(σ:St) (b:Bool),Ka E call all draw base i o l g K σ b=some z → ∃ k,∀ m,k≤m→Ka E (call' m) all draw base i o l g (K' m) σ b=some z:=by
   unfold Ka
   intro σ b h
   cases b with
   | true =>
    obtain⟨v,u,h1,h2⟩:=wv h
    obtain⟨k1,hk1⟩:=L9 hc h1
    split at h2
    ·rename_i hs
     obtain⟨k2,hk2⟩:=rV hc hK h2
     refine⟨k1+k2,fun m hm => ?_⟩
     rw[Ft,hk1 m (by omega)]
     simp only[S1,hs]
     exact hk2 m (by omega)
    ·cases h2
   | false=>exact rV hc hK h
  unfold ch at h
  simp only[ch]
  dsimp only at h ⊢
  split at h
  ·exact act σ true h
  ·rename_i j want hg
   split at h
   ·rename_i d hd
    split at h
    ·split at h
     ·rename_i hx
      simp only[S6 hx]
      exact act {σ with slots:=cH σ.slots d (.val .bool true)} (true == want) h
     ·rename_i hx
      simp only[S4 hx]
      exact act {σ with slots:=cH σ.slots d (.val .bool false)} (false == want) h
    ·exact act σ false h
    ·cases h
   ·cases h
theorem DH {rec:ka} {rec':Nat→ka} {I:ap} {R:Type} {K:St→Option R} (hr : ∀(I:ap) (R:Type) (K:St→Option R) c S σ z,rec I K c S σ=some z → ∃ k,∀ m,k≤m→rec' m I K c S σ=some z) {c:Code} {S:List Fr} {σ:St} {z:R} (h:ot E rec I K c S σ=some z) : ∃ k,∀ m,k≤m→ot E (rec' m) I K c S σ=some z:=by
 have ihp : ∀ {S:List Fr} {σ:St},pJ rec I K S σ=some z → ∃ k,∀ m,k≤m→pJ (rec' m) I K S σ=some z:=by
  intro S σ h
  cases S with
  | nil=>exact⟨0,fun _ _=>h⟩
  | cons f S=>cases f <;> exact hr _ _ _ _ _ _ _ h
 have ihc : ∀ I args tab z,dH E rec I args tab=some z → ∃ k,∀ m,k≤m→dH E (rec' m) I args tab=some z:=fun I args tab z h=>by
  unfold dH at h ⊢
  split at h
  ·exact⟨0,fun _ _=>h⟩
  ·exact hr _ _ _ _ _ _ _ h
 unfold ot at h ⊢
 split at h
 ·exact ihp h
 ·dsimp only at h ⊢
  exact rV ihc (K':=fun m σ'=>pJ (rec' m) I K S {σ' with nx:=_}) (fun σ' h'=>ihp h') h
 ·exact hr _ _ _ _ _ _ _ h
 ·split at h
  ·split at h
   ·rename_i hx
    simp only[S6 hx]
    exact hr _ _ _ _ _ _ _ h
   ·rename_i hx
    simp only[S4 hx]
    exact hr _ _ _ _ _ _ _ h
  ·cases h
 ·exact hr _ _ _ _ _ _ _ h
 ·exact hr _ _ _ _ _ _ _ h
 ·split at h
  ·exact hr _ _ _ _ _ _ _ h
  ·cases h
 ·exact⟨0,fun _ _=>h⟩
 ·cases h
end
theorem Oc {E:ce} {I:ap} {R:Type} {K:St→Option R} {c:Code} {S:List Fr} {σ:St}:iZ E I K c S σ=ot E (iZ E) I K c S σ:=by
 refine Option.ext fun z=>⟨fun h => ?_,fun h => ?_⟩
 ·obtain⟨k,hk⟩:=rj.1 h
  have h1:=hk (k+1) (by omega)
  rw[kV] at h1
  obtain⟨_,h2⟩:=DH (rec':=fun _=>iZ E) (fun _ _ _ _ _ _ _ h=>⟨0,fun _ _=>I8 h⟩) h1
  exact h2 _ (T7 _)
 ·obtain⟨k,hk⟩:=DH (rec':=fun m=>run E m) (fun _ _ _ _ _ _ _ h=>rj.1 h) h
  exact I8 (k:=k+1) (by rw[kV]; exact hk k (T7 _))
def Ma (E:ce) (rc rec:ka) (I:ap) {R:Type} (K:St→Option R) (c:Code) (S:List Fr) (σ:St):Option R:=match c with
 | .region id ops draw=>ch {E with sub:=I.sub} (dH E rc) ops draw σ.nx ((aq_ ops.size).zip ops.toList) [] σ fun σ'=>pJ rec I K S {σ' with nx:=σ.nx+64*ops.size}
 | _=>none
theorem Pg : ∃ f:(E:ce)→(rc:ka)→(I:ap)→(R:Type)→(St→Option R)→Code→List Fr→St→Option R,∀ E rc I R K c S σ,f E rc I R K c S σ=Ma E rc rc I K c S σ :=
 ⟨fun E rc I R K c S σ=>Ma E rc rc I K c S σ,fun _ _ _ _ _ _ _ _=>rfl⟩
noncomputable def pt (E:ce) (rc:ka) (I:ap) {R:Type} (K:St→Option R) (c:Code) (S:List Fr) (σ:St):Option R:=Classical.choose Pg E rc I R K c S σ
theorem Ph {E:ce} {rc:ka} {I:ap} {R:Type} {K:St→Option R} {c:Code} {S:List Fr} {σ:St}:pt E rc I K c S σ=Ma E rc rc I K c S σ:=Classical.choose_spec Pg E rc I R K c S σ
noncomputable def Fe (E:ce) (rc rec:ka):ka:=fun I _ K c S σ=>match c with
 | .skip=>pJ rec I K S σ
 | .region id ops draw=>match cD I.live id with
  | some l=>pt E rc I K (.region id ops draw) S (norm l σ)
  | none=>Ma E rc rec I K (.region id ops draw) S σ
 | .seq a b=>rec I K a (.seq b :: S) σ
 | .cond c a b=>match ev σ.slots c with
  | .val .bool x=>if x=true then rec I K a S σ else rec I K b S σ
  | _=>none
 | .block id b=>rec I K b (.block id :: S) σ
 | .loop b=>rec I K b (.loop b :: S) σ
 | .exit id=>match uf I id S with | some S'=>rec I K .skip S' σ | none=>none
 | .ret=>K σ
 | _=>none
noncomputable def Ff (E:ce) (rc:ka) (n:Nat):ka:=Nat.rec rc (fun _ rec=>Fe E rc rec) n
theorem Od {E:ce}:Fe E (iZ E) (iZ E)=iZ E:=by
 funext I R K c S σ
 rw[Oc]
 unfold Fe ot
 cases c <;> try rfl
 rename_i id ops draw
 dsimp only
 cases cD I.live id with
 | none=>rfl
 | some l=>exact Ph
theorem zG {E:ce} : ∀ n,Ff E (iZ E) n=iZ E
 | 0=>rfl
 | n+1=>by
  show Fe E (iZ E) (Ff E (iZ E) n)=_
  rw[zG n,Od]
noncomputable def ai (E:ce) (I:ap) (args:List SV) (tab:aB):Option (I.sh.den×I.bx.den):=dH E (iZ E) I args tab
theorem az {E:ce} {I:ap} {args:List SV} {tab:aB} {z:Option (I.sh.den×I.bx.den)} (h:dH E (Ff E (iZ E) 4000) I args tab=z:=by kernel_rfl):ai E I args tab=z:=by
 rw[←h,zG]
 rfl
theorem bH {E:ce} {I:ap} {R:Type} {K:St→Option R} {c:Code} {S:List Fr} {σ:St} {z:Option R} (h:Ma E (iZ E) (Ff E (iZ E) 4000) I K c S σ=z:=by kernel_rfl):pt E (iZ E) I K c S σ=z:=by
 rw[←h,zG]
 exact Ph
theorem pT.ofL {E:ce} {I:ap} {args:List SV} {tab:aB} {z:I.sh.den×I.bx.den} (h:ai E I args tab=some z):pT E I args tab z:=by
 unfold ai dH at h
 unfold pT call dH
 split at h
 ·exact⟨0,fun _ _=>h⟩
 ·exact rj.1 h
end Go.Proofs.YtfffplonjaigkaaGreatDoor.Abs
namespace Go.Proofs.YtfffplonjaigkaaGreatDoor.Abs
open Go
section
variable {α β:Type}
def ix (xs:List α) (i:Int) (d:α) (f:α→Option β):Option β:=if 0≤i then(if i < (xs.length:Int) then f (xs.getD i.toNat d) else none) else none
def inb (xs:List α) (i:Int) (k:Option β):Option β:=if 0≤i then(if i < (xs.length:Int) then k else none) else none
def dn (s:S0) (i:Int) (f:Int→Option β):Option β:=if 0≤i then(if i < (s.size:Int) then f (bt s i) else none) else none
def cats (a b:S0) (f:S0→Option β):Option β:=if a.size+b.size≤9223372036854775807 then f (a++b) else none
def app (a b:List α) (n:Nat) (f:List α→Option β):Option β:=if(a.length+b.length)*n≤140737488355328 then f (a++b) else none
def yQ (s:S0) (h:Int) (f:S0→Option β):Option β:=if 0≤h then(if h≤(s.size:Int) then f (s.extract 0 h.toNat) else none) else none
def gJ (s:S0) (l:Int) (f:S0→Option β):Option β:=if 0≤l then(if l≤(s.size:Int) then f (s.extract l.toNat s.size) else none) else none
def rk (s:S0) (l h:Int) (f:S0→Option β):Option β:=if 0≤h then(if h≤(s.size:Int) then(if 0≤l then(if l≤h then f (s.extract l.toNat h.toNat) else none) else none) else none) else none
def uv (d:α) (xs:List α) (i:Int) (f:α→α) (k:List α→β):β:=k (xs.set i.toNat (f (xs.getD i.toNat d)))
def nz (b:Int) (k:Option β):Option β:=if b=0 then none else k
end
def Kb:Nat→Nat→List Nat→List Nat
 | 0,_,l=>l
 | k+1,n,l=>match Nat.ble n 1 with
  | true=>l
  | false=>Kb k (n / 2) (n % 2 :: l)
def DI (c:Code) (l:List Nat) (S:List Fr):Code×List Fr:=match l with
 | []=>(c,S)
 | i :: l=>match c,i with
  | .seq a b,0=>DI a l (.seq b :: S)
  | .seq _ b,1=>DI b l S
  | .cond _ a _,0=>DI a l S
  | .cond _ _ b,1=>DI b l S
  | .block id b,0=>DI b l (.block id :: S)
  | .loop b,0=>DI b l (.loop b :: S)
  | _,_=>(.skip,[])
noncomputable abbrev bI (E:ce) (I:ap) (tab:aB) (c:Code) (n:Nat) (σ:St):Option (I.sh.den×I.bx.den):=pt E (iZ E) I (gb E I tab) (DI c (Kb 200 n []) []).1 (DI c (Kb 200 n []) []).2 σ
abbrev aj (x:Int):SV := .val (.int .i64) x
abbrev cS (x:Bool):SV := .val .bool x
abbrev aQ (x:S0):SV := .val .str x
abbrev aa:SV := .undef
abbrev am (g:Nat) (fn:Func) (sh bx:Sh) (own:List Bool) (live:List (Nat×List Nat)):ap:={g,fn,sh,bx,own,live}
def lu (e:TypeId):List SV→aB→Option (Sh.unit.den×(Sh.pair (.row e (.int .i64) false) .unit).den)
 | [.row 0],[(0,.row e' s xs false)]=>(ef? (t := .slice e' s) (.slice e (.int .i64)) xs).bind fun xs=>if(xs:List Int).length < 4611686018427387904 then some ((),(xs:List Int).mergeSort (fun x y=>decide (x≤y)),()) else none
 | _,_=>none
def dh (s:S0):List Int:=s.data.toList.map fun b=>(b.toNat:Int)
def nW (T e:TypeId):List SV→aB→Option ((Sh.pair (.val (.int .i64)) (.pair (.val .err) .unit)).den×(Sh.pair (.strct (.pair (.val (.bp T)) (.pair (.row e (.int .u8) false) .unit))) .unit).den)
 | [.ptr 0 t [],.val .str x],[(0,.box t' (.strct [.val (.bp _) _,.row 1])),(1,.row e' s bs false)] =>
  if t = .agg (.pair (.bp T) (.pair (.slice e (.int .u8)) .unit))∧t' = .agg (.pair (.bp T) (.pair (.slice e (.int .u8)) .unit)) then
   (ef? (t := .slice e' s) (.slice e (.int .u8)) bs).bind fun bs=>if(bs:List Int).length+(x:S0).size≤140737488355328 then some ((((x:S0).size:Int),true,()),(((),(bs:List Int)++dh x,()),())) else none
  else none
 | _,_=>none
def lv (T e:TypeId):List SV→aB→Option ((Sh.pair (.val .str) .unit).den×(Sh.pair (.strct (.pair (.val (.bp T)) (.pair (.val (.slice e (.int .u8))) .unit))) .unit).den)
 | [.ptr 0 t []],[(0,.box t' (.strct [.val (.bp _) _,.row 1])),(1,.row e' s bs false)] =>
  if t = .agg (.pair (.bp T) (.pair (.slice e (.int .u8)) .unit))∧t' = .agg (.pair (.bp T) (.pair (.slice e (.int .u8)) .unit)) then
   (ef? (t := .slice e' s) (.slice e (.int .u8)) bs).bind fun bs=>if(bs:List Int).all (fun n=>decide (0≤n∧n < 256))=true then some ((strOfNums bs,()),(((),(bs:List Int),()),())) else none
  else none
 | _,_=>none
theorem wr {n:Int} (h0 : -9223372036854775808≤n) (h1:n≤9223372036854775807):IntKind.i64.wrap n=n:=by
 simp only[IntKind.wrap,IntKind.bits,IntKind.signed]
 simp
 omega
theorem toList_inj {a b:S0} (h:a.toList=b.toList):a=b:=by
 rw[ByteArray.toList_eq,ByteArray.toList_eq] at h
 cases a
 cases b
 congr
 exact ab_.1 h
@[simp] theorem j0 {a b:S0}:(S2 a == S2 b)=decide (a=b):=by
 by_cases h:a=b
 ·subst h
  simp
 ·rw[decide_eq_false h]
  have:S2 a≠S2 b:=fun e=>h (toList_inj e)
  simpa using this
theorem jO {α:Type} {l r:List α} {y d:α}:List.getD (l++y :: r) (V1 (l.length:Int)) d=y:=by
 simp[List.getD_eq_getElem?_getD]
theorem QC {α:Type} {l r:List α} {y z:α}:List.set (l++y :: r) (V1 (l.length:Int)) z=l++z :: r:=by
 simp
theorem Oe {α:Type} {l:List α} {y:α}:((l.length:Nat):Int)+1=((l++[y]).length:Int):=by simp
theorem FW {α:Type} {l r:List α} {y:α}:((l.length:Nat):Int) < ((l++y :: r).length:Int):=by
 simp only[S5,T3]
 omega
theorem nn (n:Nat):(0:Int)≤(n:Int):=Int.natCast_nonneg n
theorem Ev.val {R:Type} {x z:R} (h:x=z):Ev (fun _=>some x) z:=h ▸ Ev.now
open Go Go.RowKit Go.ChangeShapes Go.WideShapes
def wJ:(t:Ty)→t.den→Prop
 | .int k,n=>(Lit.int k n).wf=true
 | .bool,_=>True
 | .err,_=>True
 | .fn,_=>True
 | .pt,_=>True
 | .bp _,_=>True
 | .str,s=>(s:S0).size≤maxLen
 | .unit,_=>True
 | .pair a b,x=>wJ a x.1∧wJ b x.2
 | .agg t,x=>wJ t x
 | .slice _ t,xs=>(xs:List t.den).length≤maxLen ∧ ∀ x∈(xs:List t.den),wJ t x
def A5 (P:Program) (g:TypeId→Ty→Bool):List Field→Ty→Nat→Bool
 | [],.unit,_=>true
 | f :: fs,.pair a b,o=>Y3 f.offset o && Y3 (P.cellsOf f.type) a.sz && g f.type a && A5 P g fs b (o+a.sz)
 | _,_,_=>false
def eT (P:Program):Nat→TypeId→Ty→Bool
 | 0,_,_=>false
 | _+1,T,.int k=>match P.underlying T with | some (.int k')=>decide (k'=k) | _=>false
 | _+1,T,.bool=>match P.underlying T with | some .bool=>true | _=>false
 | _+1,T,.str=>match P.underlying T with | some .string=>true | _=>false
 | d+1,T,.slice e t=>match P.underlying T with | some (.slice e')=>Y3 e' e && Y3 (P.cellsOf e) t.sz && Nat.blt 0 t.sz && eT P d e t | _=>false
 | d+1,T,.agg t=>match P.underlying T with
  | some (.struct fs)=>Y3 (P.cellsOf T) t.sz && A5 P (eT P d) fs.toList t 0
  | _=>false
 | _,_,_=>false
theorem DJ {α:Type} {Q:Nat→α→Prop} : ∀(n:Nat),(∀ i,i < n → ∃ y,Q i y) → ∃ ys:List α,ys.length=n ∧ ∀ i (h:i < ys.length),Q i ys[i]
 | 0,_=>⟨[],rfl,fun i h=>by simp at h⟩
 | n+1,h=>by
  obtain⟨ys,h1,h2⟩:=DJ n (fun i hi=>h i (by omega))
  obtain⟨y,hy⟩:=h n (by omega)
  refine⟨ys++[y],by simp[h1],fun i hi => ?_⟩
  by_cases hin:i < ys.length
  ·rw[List.getElem_append_left hin]
   exact h2 i hin
  ·rw[S5,List.length_singleton] at hi
   have:i=n:=by omega
   subst this
   rw[List.getElem_append_right (by omega)]
   simpa[h1] using hy
section
variable {H:Type} {enc:TypeId×Value→H} {P:Program} {w:World} {base:Nat} {sp:Nat→Bool} {held:Bool}
theorem FX {g:TypeId→Ty→Bool} {n:Nat} (hg : ∀ T t,g T t=true → ∀ cs x,DataW.trod enc P w base sp held n T cs=some x → ∃ y:t.den,RK (yL w) t y cs∧wJ t y) :
  ∀ {fs:List Field} {t:Ty} {o:Nat} {cs:List Value},A5 P g fs t o=true→cs.length=o+t.sz→(∀ f∈fs,∃ x,DataW.trod enc P w base sp held n f.type ((cs.drop f.offset).take (P.cellsOf f.type))=some x) → ∃ y:t.den,RK (yL w) t y (cs.drop o)∧wJ t y
 | [],.unit,o,cs,_,hl,_=>⟨(),by
   show cs.drop o=[]
   exact List.drop_eq_nil_of_le (by rw[hl]; exact T7 _),trivial⟩
 | f :: fs,.pair a b,o,cs,h,hl,hf=>by
  simp only[A5,S8] at h
  obtain⟨⟨⟨h1,h2⟩,h3⟩,h4⟩:=h
  have h1:=W2 h1
  have h2:=W2 h2
  obtain⟨x,hx⟩:=hf f (by simp)
  rw[h1,h2] at hx
  obtain⟨y1,k1,m1⟩:=hg f.type a h3 _ _ hx
  have hl':cs.length=o+a.sz+b.sz:=by
   rw[hl,Z8]
   rfl
  obtain⟨y2,k2,m2⟩:=FX hg (fs:=fs) (t:=b) (o:=o+a.sz) (cs:=cs) h4 hl' (fun f hf'=>hf f (T8 _ hf'))
  refine⟨(y1,y2),⟨(cs.drop o).take a.sz,cs.drop (o+a.sz),?_,k1,k2⟩,m1,m2⟩
  rw[←List.drop_drop,List.take_append_drop]
 | [],.int _,_,_,h,_,_=>by cases h
 | [],.bool,_,_,h,_,_=>by cases h
 | [],.err,_,_,h,_,_=>by cases h
 | [],.fn,_,_,h,_,_=>by cases h
 | [],.pt,_,_,h,_,_=>by cases h
 | [],.bp _,_,_,h,_,_=>by cases h
 | [],.str,_,_,h,_,_=>by cases h
 | [],.pair _ _,_,_,h,_,_=>by cases h
 | [],.agg _,_,_,h,_,_=>by cases h
 | [],.slice _ _,_,_,h,_,_=>by cases h
 | _ :: _,.int _,_,_,h,_,_=>by cases h
 | _ :: _,.bool,_,_,h,_,_=>by cases h
 | _ :: _,.err,_,_,h,_,_=>by cases h
 | _ :: _,.fn,_,_,h,_,_=>by cases h
 | _ :: _,.pt,_,_,h,_,_=>by cases h
 | _ :: _,.bp _,_,_,h,_,_=>by cases h
 | _ :: _,.str,_,_,h,_,_=>by cases h
 | _ :: _,.unit,_,_,h,_,_=>by cases h
 | _ :: _,.agg _,_,_,h,_,_=>by cases h
 | _ :: _,.slice _ _,_,_,h,_,_=>by cases h
theorem Cu : ∀(d:Nat) (T:TypeId) (t:Ty),eT P d T t=true → ∀(fuel:Nat) (cs:List Value) (x:DataW H×List MemPlace),DataW.trod enc P w base sp held fuel T cs=some x → ∃ y:t.den,RK (yL w) t y cs∧wJ t y
 | 0,_,_,h,_,_,_,_=>by simp[eT] at h
 | d+1,T,.int k,h,fuel,cs,x,hx=>by
  unfold eT at h
  split at h
  ·rename_i k' hu
   have:=X7 h
   subst this
   obtain⟨n,rfl,_,hw⟩:=DataW.trod_int hu hx
   exact⟨n,rfl,hw⟩
  ·cases h
 | d+1,T,.bool,h,fuel,cs,x,hx=>by
  unfold eT at h
  split at h
  ·rename_i hu
   obtain⟨b,rfl,_⟩:=DataW.trod_bool hu hx
   exact⟨b,rfl,trivial⟩
  ·cases h
 | d+1,T,.str,h,fuel,cs,x,hx=>by
  unfold eT at h
  split at h
  ·rename_i hu
   obtain⟨s,rfl,_,hw⟩:=DataW.trod_string hu hx
   exact⟨s,rfl,hw⟩
  ·cases h
 | d+1,T,.slice e t,h,fuel,cs,x,hx=>by
  unfold eT at h
  split at h
  ·rename_i e' hu
   simp only[S8] at h
   obtain⟨⟨⟨h1,h2⟩,h3⟩,h4⟩:=h
   have h1:=W2 h1
   subst h1
   have h2:=W2 h2
   have h3:0 < t.sz:=by simpa[Nat.blt_eq] using h3
   rcases DataW.trod_slice hu hx with⟨rfl,_⟩ | ⟨a,len,cap,elems,rest,n,rfl,rfl,rfl,hb,hle,hmax,hlen,hel,_⟩
   ·exact⟨([]:List t.den),⟨none,0,rfl,T7 _,fun h=>V2 rfl h⟩,aa_ _,fun x hx=>by cases hx⟩
   ·have each : ∀ i,i < len → ∃ y:t.den,wJ t y ∧ ∃ c,RK (yL w) t y c∧c.length=t.sz ∧ ∀ j,j < t.sz→w.cell? ((a.add (i*t.sz)).add j)=c[j]? := by
     intro i hi
     have h5:=hel i hi
     rw[T9 (by omega),S7,h2] at h5
     obtain⟨c,h6,h7⟩:=h5
     obtain⟨_,h8,h9⟩:=World.cells?_some h6
     obtain⟨y,h10,h11⟩:=Cu d e' t h4 _ _ _ h7
     exact⟨y,h11,c,h10,h8,h9⟩
    obtain⟨ys,hyl,hy⟩:=DJ len each
    have hyl':len=ys.length:=hyl.symm
    subst hyl'
    refine⟨ys,⟨some a,cap,rfl,hle,fun hne => ?_⟩,W7 hle hmax,fun y hyy => ?_⟩
    ·have hpos:0 < ys.length:=by
      cases ys with
      | nil=>exact V2 rfl hne
      | cons _ _=>simp
     obtain⟨_,c0,_,hcl,hcc⟩:=hy 0 hpos
     have hsp:a.spot=none:=by
      have:=hcc 0 h3
      rw[T9 (by omega)] at this
      unfold World.cell? at this
      split at this
      ·cases hs:a.spot with
       | none=>rfl
       | some z =>
        simp[Addr.add,hs] at this
      ·cases this
     obtain⟨b,o,s⟩:=a
     simp only at hsp
     subst hsp
     refine⟨b,o,rfl,fun i hi => ?_⟩
     obtain⟨_,c,k1,k2,k3⟩:=hy i hi
     refine⟨c,k1,fun j v hj=>⟨trivial,?_⟩⟩
     have hjl:j < t.sz:=by
      rw[←k2]
      exact(U0.1 hj).1
     have:=k3 j hjl
     rw[hj,add_lit,add_lit] at this
     exact this
    ·obtain⟨i,hi,he⟩:=Z9 hyy
     rw[←he]
     exact(hy i hi).1
  ·cases h
 | d+1,T,.agg t,h,fuel,cs,x,hx=>by
  unfold eT at h
  split at h
  ·rename_i fs hu
   simp only[S8] at h
   have h1:=W2 h.1
   obtain⟨xs,n,rfl,rfl,hl,hxl,hf⟩:=DataW.trod_struct hu hx
   have:=FX (g:=eT P d) (n:=n) (fun T t hT cs x hx=>Cu d T t hT n cs x hx) (cs:=cs) h.2 (by rw[hl,h1,Y5]) (fun f hfm=>by
    obtain⟨i,hi,he⟩:=Z9 hfm
    have hi':i < fs.size:=by simpa using hi
    have:=hf i f (by rw[X9 hi']; simpa using he)
    rw[T9 (by omega)] at this
    exact⟨_,this⟩)
   obtain⟨y,h3,h4⟩:=this
   exact⟨y,h3,h4⟩
  ·cases h
 | d+1,T,.unit,h,_,_,_,_=>by simp[eT] at h
 | d+1,T,.err,h,_,_,_,_=>by simp[eT] at h
 | d+1,T,.fn,h,_,_,_,_=>by simp[eT] at h
 | d+1,T,.pt,h,_,_,_,_=>by simp[eT] at h
 | d+1,T,.bp _,h,_,_,_,_=>by simp[eT] at h
 | d+1,T,.pair _ _,h,_,_,_,_=>by simp[eT] at h
theorem Of {d:Nat} {T:TypeId} {t:Ty} (h:eT P d T t=true) {r:Reach} {v:Value} (hv:Value.okWide P w r base T v):v=mk t v.cells.toList:=by
 cases d with
 | zero=>simp[eT] at h
 | succ d =>
  unfold eT at h
  cases t with
  | int k =>
   simp only at h
   split at h
   ·rename_i hu
    obtain⟨n,rfl⟩:=okWide_int hu hv
    rfl
   ·cases h
  | bool =>
   simp only at h
   split at h
   ·rename_i hu
    obtain⟨b,rfl⟩:=okWide_bool hu hv
    rfl
   ·cases h
  | str =>
   simp only at h
   split at h
   ·rename_i hu
    obtain⟨s,rfl⟩:=okWide_string hu hv
    rfl
   ·cases h
  | slice e t =>
   simp only at h
   split at h
   ·rename_i hu
    obtain⟨a,l,c,rfl⟩:=okWide_slice hu hv
    rfl
   ·cases h
  | agg t =>
   simp only at h
   split at h
   ·rename_i hu
    obtain⟨cs,rfl,_⟩:=okWide_struct hu hv
    show Value.agg cs = .agg cs.toList.toArray
    simp
   ·cases h
  | unit=>simp at h
  | err=>simp at h
  | fn=>simp at h
  | pt=>simp at h
  | bp _=>simp at h
  | pair a b=>simp at h
theorem QD {d:Nat} {T:TypeId} {t:Ty} (h:eT P d T t=true) {r:Reach} {v:Value} {x:DataW H} {ps:List MemPlace} (hv:Value.okWide P w r base T v) (hx:DataW.Trod enc P w 0 sp held T v x ps) : ∃ y:t.den,wJ t y∧v=mk t v.cells.toList∧RK (yL w) t y v.cells.toList:=by
 obtain⟨fuel,hx⟩:=hx
 obtain⟨y,h1,h2⟩:=Cu d T t h fuel _ _ hx
 exact⟨y,h2,Of h hv,h1⟩
end
abbrev A6 (w:World) (b o:Nat):Prop := ∃ v,w.cell? ⟨b,o,none⟩=some v
theorem Mb {w:World} {args:List SV} {us:List Value} (h:b8 (Ln (A6 w) w) (fun _=>none) args us):bn w (iC [] fun _=>none) (A6 w) args (ay []) (fun _=>none) (A6 w) {tmps:=us.toArray,defers:=[]} w:=by
 refine⟨h,rfl,(fun r e t v h=>by cases h),(fun r b t h=>by cases h),(fun r x h=>by cases h),(fun r r' x x' b h=>by cases h),(fun r x b h=>by cases h),(fun r x b h=>by cases h),fun _ _ _=>rfl,T7 _,rfl,rfl,rfl,?_,fun _ _ _ _ h=>h,fun _ _ _ h=>h⟩
 rintro b o ⟨v,hv⟩
 unfold World.cell? at hv
 split at hv
 ·rename_i h
  exact(V8.1 h).1
 ·cases hv
theorem QE {w:World} {t:Ty} {y:t.den} {v:Value} (h1:v=mk t v.cells.toList) (h2:RK (yL w) t y v.cells.toList):RV (Ln (A6 w) w) (fun _=>none) (.val t y) v:=by
 rw[h1]
 exact .val (eP (fun b o v h=>⟨⟨v,h.2⟩,h.2⟩) h2)
theorem Mc {P:Program} {E:ce} {Gp:WP} (hst:AR Gp) (hm:P.follows .mixedOrders=true) (hE:d7 P E) (hP:sW Gp P E) {I:ap} {key:Nat} (hg:cD E.fns key=some I) {args:List SV} {z:I.sh.den×I.bx.den} (h:pT E I args [] z)
  (h1:bG I.sh z.1 0=([.val .bool true],[],0)) (h2:bG I.bx z.2 0=([],[],0)) (h3:bX I.rb [] [] (nk I.bx)=some []) {w:World} {us:List Value} (hGp:Gp w (iC [] fun _=>none)) (hu:b8 (Ln (A6 w) w) (fun _=>none) args us) :
  Calls P I.g us.toArray w fun e w'=>e = .returned (.bool true)∧Below w.heap.size w w':=by
 have:=h.calls hst hm hE hP hg (fun k p hp=>by simp at hp) hGp (Mb hu) (fun _ _=>rfl) (N:=0) (aa_ _) h1 h2 h3
 refine this.mono ?_
 rintro e w' ⟨vals,γr,Pr',rfl,hB,_⟩
 have hv:=hB.vals
 cases hv with
 | cons hv hk =>
  cases hk
  have:=fD hv
  subst this
  refine⟨rfl,hB.os,hB.tape,hB.output,hB.size,fun k hk=>hB.frame k hk ?_⟩
  rintro⟨j,x,hj,_⟩
  cases hj
end Go.Proofs.YtfffplonjaigkaaGreatDoor.Abs
namespace Go.Proofs.YtfffplonjaigkaaGreatDoor.Abs
open Go Go.RowKit
def rX:(t:Ty)→t.den→List Value
 | .int k,n=>[.int k n]
 | .bool,b=>[.bool b]
 | .err,_=>[]
 | .fn,_=>[]
 | .pt,_=>[]
 | .bp _,_=>[]
 | .str,s=>[.string s]
 | .unit,_=>[]
 | .pair a b,x=>rX a x.1++rX b x.2
 | .agg t,x=>rX t x
 | .slice _ _,_=>[]
theorem pV {L:Lk} : ∀ {t:Ty} {x:t.den} {cs:List Value},cx t=true→(RK L t x cs↔cs=rX t x)
 | .int k,n,cs,_=>Iff.rfl
 | .bool,b,cs,_=>Iff.rfl
 | .err,_,_,hn=>by cases hn
 | .fn,_,_,hn=>by cases hn
 | .pt,_,_,hn=>by cases hn
 | .bp _,_,_,hn=>by cases hn
 | .str,s,cs,_=>Iff.rfl
 | .unit,_,cs,_=>Iff.rfl
 | .pair a b,x,cs,hn=>by
  simp only[cx,S8] at hn
  constructor
  ·rintro⟨c,d,rfl,h1,h2⟩
   rw[(pV hn.1).1 h1,(pV hn.2).1 h2]
   rfl
  ·rintro rfl
   exact⟨_,_,rfl,(pV hn.1).2 rfl,(pV hn.2).2 rfl⟩
 | .agg t,x,cs,hn=>pV (t:=t) hn
 | .slice _ _,_,_,hn=>by cases hn
theorem sY {L:Lk} {t:Ty} (hn:cx t=true) {xs:List t.den} {css:List (List Value)}:hJ L t xs css↔css=xs.map (rX t):=by
 constructor
 ·rintro⟨h1,h2⟩
  apply List.ext_getElem (by simp[h1])
  intro i h3 h4
  rw[List.getElem_map]
  exact(pV hn).1 (h2 i (by omega) h3)
 ·rintro rfl
  refine⟨by simp,fun i h h' => ?_⟩
  rw[List.getElem_map]
  exact(pV hn).2 rfl
theorem Sg {w:World} {base:Nat} {e:TypeId} {size:Nat} {v:Value} {n:Nat} {xs:List Value} (h:w.ownsRow base e size v n xs):w.ownsRow 0 e size v n xs:=by
 refine⟨h.1,?_⟩
 rcases h.2 with h2 | ⟨g,cap,cur,h3,_,h4⟩
 ·exact .inl h2
 ·exact .inr ⟨g,cap,cur,h3,aa_ _,h4⟩
end Go.Proofs.YtfffplonjaigkaaGreatDoor.Abs
namespace Go.Proofs.YtfffplonjaigkaaGreatDoor.Abs
open Go Go.RowKit
def Kc:(s:Sh)→s.den→List Value→Prop
 | .pair (.val t) b,x,us => ∃ cs us',us=mk t cs :: us'∧RK (fun _ _ _=>False) t x.1 cs∧Kc b x.2 us'
 | .unit,_,us=>us=[]
 | _,_,_=>False
theorem yR {γ:Nat→Option G} : ∀ {s:Sh} {x:s.den} {us:List Value} (n:Nat),Kc s x us → ∃ vs,bG s x n=(vs,[],n)∧b8 (fun _ _ _=>False) γ vs us
 | .pair (.val t) b,x,us,n,h=>by
  obtain⟨cs,us',rfl,hk,h⟩:=h
  obtain⟨vs,h1,h2⟩:=yR (γ:=γ) (s:=b) (x:=x.2) n h
  refine⟨.val t x.1 :: vs,?_,.cons (.val hk) h2⟩
  show(let (v,u,m):=aF (.val t) x.1 n; let (l,u',m'):=aF.go b x.2 m; (v :: l,u++u',m'))=_
  have h1:aF.go b x.2 n=(vs,[],n):=h1
  simp only[aF,h1,W9]
 | .unit,x,us,n,h=>⟨[],rfl,by rw[show us=[] from h]; exact .nil⟩
 | .val _,_,_,_,h=>h.elim
 | .row _ _ _,_,_,_,h=>h.elim
 | .strct _,_,_,_,h=>h.elim
 | .ptr _,_,_,_,h=>h.elim
 | .pair .unit _,_,_,_,h=>h.elim
 | .pair (.row _ _ _) _,_,_,_,h=>h.elim
 | .pair (.pair _ _) _,_,_,_,h=>h.elim
 | .pair (.strct _) _,_,_,_,h=>h.elim
 | .pair (.ptr _) _,_,_,_,h=>h.elim
theorem ii {Gp:WP} {P:Program} {g:Nat} {fn:Func} {sh:Sh} {own:List Bool} {live:List (Nat×List Nat)} {pr:Option (List SV→aB→Option (sh.den×Sh.unit.den))} {args:List SV} {z:sh.den×Sh.unit.den} (hz : ∀ n,(bG sh z.1 n).2=([],n))
  (hcall : ∀(w:World) (Pr:Nat→Nat→Prop) (γ:Nat→Option G) (us:List Value),Gp w (fun _=>False)→(∀ b o,Pr b o→b < w.heap.size)→b8 (Ln Pr w) γ args us→Calls P g us.toArray w fun e w' => ∃ us',e = .returned (wD us')∧Kc sh z.1 us'∧Below w.heap.size w w') (hst : ∀ w X,Gp w X→Gp w fun _=>False) :
  cN Gp P {g:=g,fn:=fn,sh:=sh,bx := .unit,own:=own,live:=live,prim:=pr} args [] z:=by
 intro hcanon w γ Pr us hG hI hlim N hN vs u n bs u' n' ub hm1 hm2 hub
 have hu:=hz N
 rw[show bG sh z.1 N=(vs,u,n) from hm1] at hu
 obtain⟨rfl,rfl⟩:=Prod.mk.inj hu
 cases hm2
 cases hub
 refine(hcall w _ γ us (hst _ _ hG) hI.prIn hI.slots).mono ?_
 rintro e w' ⟨us',rfl,hf,hB⟩
 obtain⟨vs',hv1,hv2⟩:=yR (γ:=fun _=>none) n hf
 rw[show bG sh z.1 n=(vs,[],n) from hm1] at hv1
 cases hv1
 refine⟨_,fun _=>none,Pr,rfl,⟨eY (fun _ _ _ h=>h.elim) (fun _ _ h=>h) hv2,?_,?_,?_,?_,?_,?_,?_,?_,?_,hB.size,hB.os,hB.tape,hB.output,?_,?_,?_⟩,?_⟩
 ·intro r g h; cases h
 ·intro j t c h; simp at h
 ·intro r x h; cases h
 ·intro r r' x x' b h; cases h
 ·intro j t c b h; simp at h
 ·intro j t c b h; simp at h
 ·intro r x b h; cases h
 ·intro r x b h; cases h
 ·exact fun k hk _=>hB.block k hk
 ·exact fun b o ho=>X1 (hI.prIn b o ho) hB.size
 ·exact fun b hb hx o ho=>ho
 ·intro b o v hv
  refine⟨hv.1,?_⟩
  rw[World.cell?_of_block (hB.block b (hI.prIn b o hv.1))]
  exact hv.2
 ·intro p hp
  cases hp
abbrev fg:=String×(Array Value→Prop)
def ec (P:Program) (l:List fg):WP:=fun w X => ∀ p∈l,(∃ a,w.var? P p.1=some a∧p.2 a) ∧ ∀ g,P.globalNamed p.1=some g → ¬X g
theorem ec.stable {P:Program} {l:List fg}:AR (ec P l):=by
 intro w0 X w X' h k p hp
 obtain⟨⟨a,h1,h0⟩,h2⟩:=h p hp
 unfold World.var? at h1 ⊢
 cases hg:P.globalNamed p.1 with
 | none=>rw[hg] at h1; cases h1
 | some g =>
  rw[hg] at h1
  simp only[S1] at h1 ⊢
  have hlt:g < w0.heap.size:=by
   rcases Nat.lt_or_ge g w0.heap.size with h | h
   ·exact h
   ·rw[bj_ h] at h1
    cases h1
  obtain⟨_,k2,k3⟩:=k g hlt (h2 g hg)
  rw[k3]
  exact⟨⟨a,h1,h0⟩,fun g' hg'=>by cases hg'; exact k2⟩
theorem ec.none {P:Program} {l:List fg} {w:World} {X:Nat→Prop} (h:ec P l w X):ec P l w fun _=>False :=
 fun p hp=>⟨(h p hp).1,fun _ _ h=>h⟩
theorem FY {c:S0} (h:nV c=true):c.size < 4294967281 ∧ ∀(j:Nat) b,c.data.toList[j]? = some b→b.toNat < 128:=by
 unfold nV at h
 simp only[S8,T0,Z2] at h
 exact⟨by omega,fun j b hj=>h.2 b (W4 hj)⟩
def sZ (n:String):fg:=(n,fun a => ∃ m,a[0]? = some (.int .i64 m))
def A7 (n:String):fg:=(n,fun a => ∃ tp p,a = #[.iface tp p])
theorem yS {P:Program} {l:List fg} {w:World} {n:String} {g:Nat} (h:ec P l w fun _=>False) (hm:sZ n∈l) (hg:P.globalNamed n=some g) : ∃ m,w.cell? ⟨g,0,Option.none⟩=some (.int .i64 m):=by
 obtain⟨⟨a,h1,m,h2⟩,_⟩:=h _ hm
 refine⟨m,?_⟩
 have:=World.var?_cell hg h1 0
 rw[this]
 exact h2
theorem Md {P:Program} {w:World} {n:String} {g:Nat} (hg:P.globalNamed n=some g) (h : ∃ m,w.cell? ⟨g,0,Option.none⟩=some (.int .i64 m)) : ∃ a,w.var? P (sZ n).1=some a∧(sZ n).2 a:=by
 obtain⟨m,h⟩:=h
 unfold World.cell? at h
 split at h
 ·rename_i c t z hc
  refine⟨c,?_,m,h⟩
  show World.var? P w n=some c
  unfold World.var?
  rw[hg]
  simp only[S1,hc]
 ·cases h
end Go.Proofs.YtfffplonjaigkaaGreatDoor.Abs
