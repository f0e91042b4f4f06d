/- Regions whose operations may stand in other orders. -/
import Derived.Test.YtfffplonjaigkaaGreatDoorZA2
import Derived.LoopN
import Derived.Sort.AssemblyPlain
import Derived.Lib.BitFns
import Derived.Lib.ItoaNum
import Derived.Lib.SlTrimSet
import Derived.Lib.IndexMore
import Derived.Lib.Split
import Derived.Lib.Replace
import Derived.Lib.Join
import Derived.Lib.ParseIntB
import Derived.Lib.Strings
import Derived.Sort.Walk0
import Derived.ChangeArms
import Derived.DataReads
import Derived.WideShapes
import Derived.Carry
import Derived.OpenShut
import Derived.LaidLaws
import Derived.LaidHandle
import Derived.LaidMore
import Derived.Lib.LaidTab
import Derived.Below
set_option linter.unusedVariables false
set_option linter.unusedSimpArgs false
set_option linter.unusedSectionVars false
open Array renaming getD_eq_getD_getElem?→Q5,getElem?_eq_getElem→Q4,getElem?_eq_none→W3,getElem?_eq_some_iff→P6,getElem?_toList→R9,size_push→al_,toList_inj→U3
open Bool renaming and_eq_true→M7,not_eq_true'→V6,not_true→O5,or_eq_false_iff→ah_
open ByteArray renaming toList→M1
open Go.Result renaming andThen_ok→N2
open Go.Sem renaming run_bind→N9,run_pure→O3
open Int renaming toNat→P9
open List renaming all_eq_true→T1,append_nil→Q9,eq_nil_of_length_eq_zero→P8,foldl_cons→Z2,getElem?_append_left→Q2,getElem?_append_right→S5,getElem?_eq_getElem→N8,getElem?_eq_some_iff→N7,getElem_of_mem→T6,length_append→M6,length_cons→N3,map_cons→S2,mem_append_left→U9,mem_append_right→T9,mem_append→R4,mem_cons_of_mem→N5,mem_cons→O9,mem_map_of_mem→V7,mem_of_getElem?→P5,mem_singleton→P0,nodup_cons→W7,pairwise_cons→T4,pairwise_map→W8,prefix_rfl→Z4,range→U4,replicate→P3
open List.cons renaming inj→Y8
open Nat renaming add_assoc→T0,add_sub_cancel_left→Y5,add_zero→U6,beq→Q7,eq_of_beq_eq_true→P2,le_refl→N4,le_trans→Q3,lt_of_lt_of_le→Q8,zero_add→S3,zero_le→W5
open Option renaming bind_eq_some_iff→M4,bind_some→M0,getD_some→S7
open Option.some renaming injEq→O2,inj→R5
open _root_ renaming ByteArray→L9,absurd→P1,congrArg→N1,decide_eq_true_eq→M9,if_neg→M2,if_pos→M5,of_decide_eq_true→R3
namespace Go.Proofs.YtfffplonjaigkaaGreatDoor.Abs
open Go Go.RowKit
theorem Kb {s:Nat} {e:Nat} {b:Nat} {a:Nat}:(s ||| 2 ^ e ||| b).testBit a=(s.testBit a || decide (e=a) || b.testBit a):=by
 simp[Nat.testBit_or,Nat.testBit_two_pow]
theorem zq (g:Nat→Nat) (a:Nat) : ∀(l:List Edge) (s:Nat),(l.foldl (fun s e=>if Region.binds .any e then s ||| 2 ^ e.on ||| g e.on else s) s).testBit a=true→s.testBit a=true ∨ ∃ e∈l,Region.binds .any e=true∧(e.on=a∨(g e.on).testBit a=true)
 | [],s,h => .inl h
 | e :: l,s,h=>by
  rw[Z2] at h
  rcases zq g a l _ h with h | ⟨e',h1,h2⟩
  ·split at h
   ·rename_i hb
    rw[Kb] at h
    simp only[Bool.or_eq_true,M9] at h
    rcases h with(h | h) | h
    ·exact .inl h
    ·exact .inr ⟨e,by simp,hb,.inl h⟩
    ·exact .inr ⟨e,by simp,hb,.inr h⟩
   ·exact .inl h
  ·exact .inr ⟨e',N5 _ h1,h2⟩
def wJ (acc:Array Nat) (o:Oper):Nat:=o.after.foldl (fun s e=>if Region.binds .any e then s ||| 2 ^ e.on ||| acc.getD e.on 0 else s) 0
theorem uQ : ∀(l:List Oper) (acc:Array Nat),let r:=l.foldl (fun acc o=>acc.push (wJ acc o)) acc
  r.size=acc.size+l.length∧(∀ k,k < acc.size→r[k]? = acc[k]?) ∧ ∀ k o,l[k]? = some o → ∃ acc',(∀ j,j < acc.size+k→acc'[j]? = r[j]?)∧acc'.size=acc.size+k∧r[acc.size+k]? = some (wJ acc' o)
 | [],acc=>⟨by simp,fun k _=>rfl,fun k o h=>by simp at h⟩
 | o :: l,acc=>by
  obtain⟨h1,h2,h3⟩:=uQ l (acc.push (wJ acc o))
  refine⟨by simp only[Z2,h1,al_,N3]; omega,fun k hk => ?_,fun k o' hk => ?_⟩
  ·rw[Z2,h2 k (by rw[al_]; omega),Array.getElem?_push_lt hk,Q4 hk]
  ·rw[Z2]
   cases k with
   | zero =>
    simp at hk
    subst hk
    refine⟨acc,fun j hj => ?_,rfl,?_⟩
    ·rw[h2 j (by rw[al_]; omega),Array.getElem?_push_lt (by omega),Q4 (by omega)]
    ·rw[h2 (acc.size+0) (by rw[al_]; omega)]
     simp
   | succ k =>
    obtain⟨acc',h4,h5,h6⟩:=h3 k o' (by simpa using hk)
    rw[al_] at h4 h5 h6
    refine⟨acc',fun j hj=>h4 j (by omega),by omega,?_⟩
    rw[show acc.size+(k+1)=acc.size+1+k by omega]
    exact h6
theorem G4 {all:Array Oper} {a b:Nat} (h:((Region.before all).getD b 0).testBit a=true) : ∃ o,all[b]? = some o ∧ ∃ e∈o.after,Region.binds .any e=true∧(e.on=a∨(e.on < b∧((Region.before all).getD e.on 0).testBit a=true)):=by
 have hb:Region.before all=all.toList.foldl (fun acc o=>acc.push (wJ acc o)) #[]:=by
  unfold Region.before
  rw[←Array.foldl_toList]
  rfl
 obtain⟨h1,_,h3⟩:=uQ all.toList #[]
 rw[←hb] at h1 h3
 have hlt:b < all.size:=by
  rcases Nat.lt_or_ge b all.size with h' | h'
  ·exact h'
  ·have:(Region.before all)[b]? = none:=W3 (by rw[h1]; simpa using h')
   rw[Q5,this] at h
   simp at h
 obtain⟨acc',h4,h5,h6⟩:=h3 b all[b] (by rw[R9]; exact Q4 hlt)
 simp only[Array.size_empty,S3] at h4 h5 h6
 refine⟨all[b],Q4 hlt,?_⟩
 rw[Q5,h6,S7] at h
 unfold wJ at h
 rw[←Array.foldl_toList] at h
 rcases zq (fun n=>acc'.getD n 0) a _ 0 h with h | ⟨e,h7,h8,h9⟩
 ·simp at h
 ·refine⟨e,by simpa using h7,h8,?_⟩
  rcases h9 with h9 | h9
  ·exact .inl h9
  ·right
   by_cases he:e.on < b
   ·refine⟨he,?_⟩
    rw[Q5,←h4 e.on he,←Q5]
    exact h9
   ·rw[Q5,W3 (by omega)] at h9
    simp at h9
theorem zr {all:Array Oper} {S:Nat→Prop} (hS : ∀ b o,S b→all[b]? = some o → ∀ e∈o.after,Region.binds .any e=true→S e.on) : ∀(b a:Nat),(∀ o,all[b]? = some o → ∀ e∈o.after,Region.binds .any e=true→S e.on)→((Region.before all).getD b 0).testBit a=true→S a:=by
 intro b
 induction b using Nat.strongRecOn with
 | _ b ih =>
  intro a hb h
  obtain⟨o,ho,e,he,hbd,h | ⟨hlt,h⟩⟩:=G4 h
  ·rw[←h]
   exact hb o ho e he hbd
  ·have hse:=hb o ho e he hbd
   exact ih e.on hlt a (fun o' ho' e' he' hb'=>hS e.on o' hse ho' e' he' hb') h
structure Tr where
 i:Nat
 o:Oper
 v:SV
 u:Up
 see:List Nat
 ran:Bool
def gp (τ:Tr):sB:={i:=τ.i,see:=τ.see,turn:=τ.u.map (·.1)}
def eN (S:Nat→Bool):List Tr→List SV→List SV
 | [],sl=>sl
 | τ :: T,sl=>eN S T (if S τ.i=true then il sl τ.o.dst τ.v else sl)
def fB (S:Nat→Bool):List Tr→(Nat→Option aE)→Nat→Option aE
 | [],g=>g
 | τ :: T,g=>fB S T (if S τ.i=true then aP g τ.u else g)
theorem vw {S:Nat→Bool} : ∀ {T:List Tr} {sl:List SV},(∀ τ∈T,S τ.i=false)→eN S T sl=sl
 | [],_,_=>rfl
 | τ :: T,sl,h=>by
  unfold eN
  rw[M2 (by rw[h τ (by simp)]; simp)]
  exact vw fun τ hτ=>h τ (N5 _ hτ)
theorem vx {S:Nat→Bool} : ∀ {T:List Tr} {g:Nat→Option aE},(∀ τ∈T,S τ.i=false)→fB S T g=g
 | [],_,_=>rfl
 | τ :: T,g,h=>by
  unfold fB
  rw[M2 (by rw[h τ (by simp)]; simp)]
  exact vx fun τ hτ=>h τ (N5 _ hτ)
theorem sM {S S':Nat→Bool} : ∀ {T:List Tr} {sl:List SV},(∀ τ∈T,S τ.i=S' τ.i)→eN S T sl=eN S' T sl
 | [],_,_=>rfl
 | τ :: T,sl,h=>by
  unfold eN
  rw[h τ (by simp)]
  exact sM fun τ hτ=>h τ (N5 _ hτ)
theorem sN {S S':Nat→Bool} : ∀ {T:List Tr} {g:Nat→Option aE},(∀ τ∈T,S τ.i=S' τ.i)→fB S T g=fB S' T g
 | [],_,_=>rfl
 | τ :: T,g,h=>by
  unfold fB
  rw[h τ (by simp)]
  exact sN fun τ hτ=>h τ (N5 _ hτ)
theorem uR : ∀(l:List SV) (d:Nat) (v:SV),(cg l d v).length=l.length
 | [],_,_=>rfl
 | x :: l,0,v=>rfl
 | x :: l,d+1,v=>by simp[cg,uR l d v]
theorem BB : ∀(l:List SV) (d t:Nat) (v:SV),d≠t→dY (cg l d v) t=dY l t
 | [],_,_,_,_=>rfl
 | x :: l,0,0,v,h=>P1 rfl h
 | x :: l,0,t+1,v,h=>rfl
 | x :: l,d+1,0,v,h=>rfl
 | x :: l,d+1,t+1,v,h=>BB l d t v (fun e=>h (by rw[e]))
theorem zt : ∀(l l':List SV) (d:Nat) (v:SV),l.length=l'.length→dY (cg l d v) d=dY (cg l' d v) d
 | [],[],_,_,_=>rfl
 | [],_ :: _,_,_,h=>by simp at h
 | _ :: _,[],_,_,h=>by simp at h
 | x :: l,y :: l',0,v,h=>rfl
 | x :: l,y :: l',d+1,v,h=>zt l l' d v (by simpa using h)
theorem BC : ∀(l:List SV) (d e:Nat) (v u:SV),d≠e→cg (cg l d v) e u=cg (cg l e u) d v
 | [],_,_,_,_,_=>rfl
 | x :: l,0,0,v,u,h=>P1 rfl h
 | x :: l,0,e+1,v,u,h=>rfl
 | x :: l,d+1,0,v,u,h=>rfl
 | x :: l,d+1,e+1,v,u,h=>N1 (x :: ·) (BC l d e v u (fun hh=>h (by rw[hh])))
theorem wK {S S':Nat→Bool} {t:Nat} : ∀ {T:List Tr} {sl sl':List SV},(∀ τ∈T,τ.o.dst=some t→S τ.i=S' τ.i)→sl.length=sl'.length→dY sl t=dY sl' t→dY (eN S T sl) t=dY (eN S' T sl') t
 | [],_,_,_,_,h=>h
 | τ :: T,sl,sl',hT,hl,hs=>by
  unfold eN
  refine wK (fun τ hτ=>hT τ (N5 _ hτ)) ?_ ?_
  ·have : ∀(S:Nat→Bool) (sl:List SV),(if S τ.i=true then il sl τ.o.dst τ.v else sl).length=sl.length:=by
    intro S sl
    split
    ·unfold il
     split
     ·exact uR _ _ _
     ·rfl
    ·rfl
   rw[this,this,hl]
  ·by_cases hd:τ.o.dst=some t
   ·rw[hT τ (by simp) hd]
    split
    ·rw[hd]
     exact zt _ _ _ _ hl
    ·exact hs
   ·have : ∀(S:Nat→Bool) (sl:List SV),dY (if S τ.i=true then il sl τ.o.dst τ.v else sl) t=dY sl t:=by
     intro S sl
     split
     ·unfold il
      split
      ·rename_i d hdd
       exact BB _ _ _ _ (fun e=>hd (by rw[hdd,e]))
      ·rfl
     ·rfl
    rw[this,this,hs]
theorem ju {u:Up} {r:Nat} : ∀ {g g':Nat→Option aE},(g r=g' r→aP g u r=aP g' u r)∧(r ∉ u.map (·.1)→aP g u r=g r):=by
 induction u with
 | nil=>exact fun {g g'}=>⟨fun h=>h,fun _=>rfl⟩
 | cons p u ih =>
  intro g g'
  obtain⟨k,x⟩:=p
  constructor
  ·intro h
   refine(ih (g:=fun s=>if s=k then x else g s) (g':=fun s=>if s=k then x else g' s)).1 ?_
   by_cases hk:r=k
   ·rw[M5 hk,M5 hk]
   ·rw[M2 hk,M2 hk,h]
  ·intro h
   rw[S2,O9] at h
   show aP (fun s=>if s=k then x else g s) u r=g r
   rw[(ih (g:=fun s=>if s=k then x else g s) (g':=g)).2 (fun hh=>h (.inr hh)),M2 (fun e=>h (.inl e))]
theorem BD {S S':Nat→Bool} {r:Nat} : ∀ {T:List Tr} {g g':Nat→Option aE},(∀ τ∈T,r∈τ.u.map (·.1)→S τ.i=S' τ.i)→g r=g' r→fB S T g r=fB S' T g' r
 | [],_,_,_,h=>h
 | τ :: T,g,g',hT,hs=>by
  unfold fB
  refine BD (fun τ hτ=>hT τ (N5 _ hτ)) ?_
  by_cases hd:r∈τ.u.map (·.1)
  ·rw[hT τ (by simp) hd]
   split
   ·exact ju.1 hs
   ·exact hs
  ·have : ∀(S:Nat→Bool) (g:Nat→Option aE),(if S τ.i=true then aP g τ.u else g) r=g r:=by
    intro S g
    split
    ·exact(ju (g':=g)).2 hd
    ·rfl
   rw[this,this,hs]
theorem G5 {sl:List SV} {d e:Option Nat} {v u:SV} (h : ∀ t,d=some t→e≠some t):il (il sl d v) e u=il (il sl e u) d v:=by
 cases d with
 | none=>cases e <;> rfl
 | some d=>cases e with
  | none=>rfl
  | some e=>exact BC sl d e v u (fun hh=>h d rfl (by rw[hh]))
theorem G6 {g:Nat→Option aE} {u u':Up} (h : ∀ r,r∈u.map (·.1)→r ∉ u'.map (·.1)):aP (aP g u) u'=aP (aP g u') u:=by
 funext r
 by_cases h1:r∈u.map (·.1)
 ·rw[(ju (g':=g)).2 (h r h1)]
  exact ju.1 (((ju (g':=g)).2 (h r h1)).symm)
 ·rw[(ju (u:=u) (g':=g)).2 h1]
  exact ju.1 ((ju (u:=u) (g':=g)).2 h1)
theorem wL {S:Nat→Bool} {τ:Tr} (hS:S τ.i=false) : ∀ {T:List Tr} {sl:List SV},τ∈T→(T.map (·.i)).Nodup→(∀ τ'∈T,S τ'.i=true→τ.i < τ'.i → ∀ t,τ.o.dst=some t→τ'.o.dst≠some t)→T.Pairwise (fun x y=>x.i < y.i) →
  eN (fun j=>S j || j == τ.i) T sl=il (eN S T sl) τ.o.dst τ.v
 | [],_,h,_,_,_=>by simp at h
 | τ0 :: T,sl,hm,hnd,hc,hp=>by
  rw[S2,W7] at hnd
  rw[T4] at hp
  unfold eN
  rcases O9.1 hm with rfl | hm'
  ·have e1 : ∀ τ'∈T,(S τ'.i || τ'.i == τ.i)=S τ'.i:=fun τ' hτ'=>by
    have:τ'.i≠τ.i:=fun e=>hnd.1 (by rw[←e]; exact V7 (f:=(·.i)) hτ')
    simp[this]
   rw[sM e1,M5 (by simp),M2 (by rw[hS]; simp)]
   have key : ∀(T:List Tr) (sl:List SV),(∀ τ'∈T,S τ'.i=true → ∀ t,τ.o.dst=some t→τ'.o.dst≠some t)→eN S T (il sl τ.o.dst τ.v)=il (eN S T sl) τ.o.dst τ.v:=by
    intro T
    induction T with
    | nil=>intro sl _; rfl
    | cons τ' T ih =>
     intro sl h
     unfold eN
     split
     ·rename_i hs
      rw[G5 (h τ' (by simp) hs)]
      exact ih _ (fun τ hτ=>h τ (N5 _ hτ))
     ·exact ih _ (fun τ hτ=>h τ (N5 _ hτ))
   exact key T sl (fun τ' hτ' hs=>hc τ' (N5 _ hτ') hs (hp.1 τ' hτ'))
  ·have hne:τ0.i≠τ.i:=fun e=>hnd.1 (by rw[e]; exact V7 (f:=(·.i)) hm')
   have:(S τ0.i || τ0.i == τ.i)=S τ0.i:=by simp[hne]
   rw[this]
   exact wL hS hm' hnd.2 (fun τ' hτ'=>hc τ' (N5 _ hτ')) hp.2
theorem wM {S:Nat→Bool} {τ:Tr} (hS:S τ.i=false) : ∀ {T:List Tr} {g:Nat→Option aE},τ∈T→(T.map (·.i)).Nodup→(∀ τ'∈T,S τ'.i=true→τ.i < τ'.i → ∀ r,r∈τ.u.map (·.1)→r ∉ τ'.u.map (·.1))→T.Pairwise (fun x y=>x.i < y.i) →
  fB (fun j=>S j || j == τ.i) T g=aP (fB S T g) τ.u
 | [],_,h,_,_,_=>by simp at h
 | τ0 :: T,g,hm,hnd,hc,hp=>by
  rw[S2,W7] at hnd
  rw[T4] at hp
  unfold fB
  rcases O9.1 hm with rfl | hm'
  ·have e1 : ∀ τ'∈T,(S τ'.i || τ'.i == τ.i)=S τ'.i:=fun τ' hτ'=>by
    have:τ'.i≠τ.i:=fun e=>hnd.1 (by rw[←e]; exact V7 (f:=(·.i)) hτ')
    simp[this]
   rw[sN e1,M5 (by simp),M2 (by rw[hS]; simp)]
   have key : ∀(T:List Tr) (g:Nat→Option aE),(∀ τ'∈T,S τ'.i=true → ∀ r,r∈τ.u.map (·.1)→r ∉ τ'.u.map (·.1))→fB S T (aP g τ.u)=aP (fB S T g) τ.u:=by
    intro T
    induction T with
    | nil=>intro g _; rfl
    | cons τ' T ih =>
     intro g h
     unfold fB
     split
     ·rename_i hs
      rw[G6 (h τ' (by simp) hs)]
      exact ih _ (fun τ hτ=>h τ (N5 _ hτ))
     ·exact ih _ (fun τ hτ=>h τ (N5 _ hτ))
   exact key T g (fun τ' hτ' hs=>hc τ' (N5 _ hτ') hs (hp.1 τ' hτ'))
  ·have hne:τ0.i≠τ.i:=fun e=>hnd.1 (by rw[e]; exact V7 (f:=(·.i)) hm')
   have:(S τ0.i || τ0.i == τ.i)=S τ0.i:=by simp[hne]
   rw[this]
   exact wM hS hm' hnd.2 (fun τ' hτ'=>hc τ' (N5 _ hτ')) hp.2
section
variable {P:Program} {E:bK} {call:(I:ak)→List SV→ar→Option (I.sh.den×I.bx.den)} {w0:World} {X:Nat→Prop} {Pr0:Nat→Nat→Prop}
variable {R:Type} {K:St→Option R} {z:R}
def I1 (E:bK) (call:(I:ak)→List SV→ar→Option (I.sh.den×I.bx.den)) (all:Array Oper) (base:Nat) (τ:Tr) (sl:List SV) (g:Nat→Option aE):Prop :=
 eu all τ.o sl τ.ran∧(τ.ran=true → ∃ res,bL E call τ.o ((ct τ.o.op).map (ev sl)) res (base+64*τ.i) bJ=some (τ.v,τ.u) ∧ ∀ r x,am res r=some x→r∈τ.see∧g r=some x)∧(τ.ran=false→τ.v = .tup []∧τ.u=[])
theorem BE {all:Array Oper} {base:Nat} : ∀ {l:List (Nat×Oper)} {g:List sB} {σ:St},bO E call all true base l g σ K=some z→(l.map (·.1)).Pairwise (· < ·) →
  ∃(T:List Tr) (σ':St),T.map (fun τ=>(τ.i,τ.o))=l∧(∀ τ∈T,I1 E call all base τ (eN (fun j=>decide (j < τ.i)) T σ.slots) (fB (fun j=>decide (j < τ.i)) T (am σ.res)))∧σ'.slots=eN (fun _=>true) T σ.slots∧am σ'.res=fB (fun _=>true) T (am σ.res) ∧
   σ'.n0=σ.n0∧σ'.nx=σ.nx∧K σ'=some z∧tX all (Region.before all) ((T.map gp).reverse++g)=true∧xZ all=true
 | [],g,σ,h,_=>by
  unfold bO at h
  simp only at h
  split at h
  ·rename_i h1 h2
   exact⟨[],σ,rfl,fun τ hτ=>by simp at hτ,rfl,rfl,rfl,rfl,h,h1,h2⟩
  ·cases h
 | (i,o) :: l,g,σ,h,hp=>by
  obtain⟨ran,v,u,see,hg,hran,hskip,hrest⟩:=uP h
  rw[S2,T4] at hp
  obtain⟨T,σ',h1,h2,h3,h4,h5,h6,h7,h8,h9⟩:=BE hrest hp.2
  have hT : ∀ τ∈T,i < τ.i:=by
   intro τ hτ
   have:(τ.i,τ.o)∈l:=by
    rw[←h1]
    exact V7 (f:=fun τ:Tr=>(τ.i,τ.o)) hτ
   exact hp.1 _ (V7 (f:=(·.1)) this)
  have hres:am (i8 σ o.dst v u).res=aP (am σ.res) u:=lj
  refine⟨⟨i,o,v,u,see,ran⟩ :: T,σ',by rw[S2,h1],?_,?_,?_,h5,h6,h7,?_,h9⟩
  ·intro τ hτ
   rcases O9.1 hτ with rfl | hτ
   ·have hno : ∀ τ'∈T,decide (τ'.i < i)=false:=fun τ' hτ'=>by
     have:=hT τ' hτ'
     simp
     omega
    have e1:eN (fun j=>decide (j < i)) (⟨i,o,v,u,see,ran⟩ :: T) σ.slots=σ.slots:=by
     unfold eN
     rw[M2 (by simp)]
     exact vw hno
    have e2:fB (fun j=>decide (j < i)) (⟨i,o,v,u,see,ran⟩ :: T) (am σ.res)=am σ.res:=by
     unfold fB
     rw[M2 (by simp)]
     exact vx hno
    show I1 E call all base ⟨i,o,v,u,see,ran⟩ (eN (fun j=>decide (j < i)) (⟨i,o,v,u,see,ran⟩ :: T) σ.slots) (fB (fun j=>decide (j < i)) (⟨i,o,v,u,see,ran⟩ :: T) (am σ.res))
    rw[e1,e2]
    exact⟨hg,fun hr=>⟨_,(hran hr).1,fun r x hx=>jO hx⟩,hskip⟩
   ·have hlt:=hT τ hτ
    have:=h2 τ hτ
    rw[qO,hres] at this
    unfold eN fB
    rw[M5 (by simp[hlt]),M5 (by simp[hlt])]
    exact this
  ·rw[h3,qO]
   rfl
  ·rw[h4,hres]
   rfl
  ·rw[S2,List.reverse_cons,List.append_assoc]
   exact h8
theorem BF {all:Array Oper} {bf:Array Nat} : ∀ {L:List sB},tX all bf L=true→L.Pairwise fun b a=>ot all a b=true→(bf.getD b.i 0).testBit a.i=true
 | [],_ => .nil
 | b :: L,h=>by
  simp only[tX,M7,T1] at h
  refine T4.2 ⟨fun a ha hc => ?_,BF h.2⟩
  have:=h.1 a ha
  rw[hc] at this
  simpa using this
theorem kH {l m:List Nat} {r:Nat} (h1:r∈l) (h2:r∈m):fT l m=true:=by
 unfold fT
 rw[List.any_eq_true]
 refine⟨r,h1,?_⟩
 cases hh:qD m r with
 | true=>rfl
 | false=>exact P1 h2 (pN hh)
theorem I2 {sl sl':List SV} {x:Operand} (h : ∀ t,x = .tmp t→dY sl t=dY sl' t):ev sl x=ev sl' x:=by
 cases x with
 | tmp t=>exact h t rfl
 | _=>rfl
theorem Ft {o:Oper} {t:Nat} (h:Operand.tmp t∈ct o.op):t∈GK o:=List.mem_filterMap.2 ⟨_,h,rfl⟩
theorem zu {α:Type} {p q:α→Bool} : ∀ {l:List α},(∀ x∈l,q x=true→p x=true)→(∃ x∈l,p x=true∧q x=false)→(l.filter q).length < (l.filter p).length
 | [],_,h=>by
  obtain⟨x,hx,_⟩:=h
  simp at hx
 | a :: l,hq,⟨x,hx,h1,h2⟩=>by
  have hle : ∀ l:List α,(∀ x∈l,q x=true→p x=true)→(l.filter q).length≤(l.filter p).length:=by
   intro l
   induction l with
   | nil=>intro _; simp
   | cons a l ih =>
    intro h
    have:=ih (fun x hx=>h x (N5 _ hx))
    simp only[List.filter_cons]
    by_cases ha:q a=true
    ·rw[M5 ha,M5 (h a (by simp) ha)]
     simpa using this
    ·rw[M2 ha]
     split
     ·simp only[N3]; omega
     ·exact this
  have hl:=hle l (fun x hx=>hq x (N5 _ hx))
  simp only[List.filter_cons]
  rcases O9.1 hx with rfl | hx
  ·rw[M2 (by rw[h2]; simp),M5 h1]
   simp only[N3]
   omega
  ·have:=zu (l:=l) (fun x hx=>hq x (N5 _ hx)) ⟨x,hx,h1,h2⟩
   by_cases ha:q a=true
   ·rw[M5 ha,M5 (hq a (by simp) ha)]
    simpa using this
   ·rw[M2 ha]
    split
    ·simp only[N3]; omega
    ·exact this
structure L0 (all:Array Oper) (base:Nat) (T:List Tr) (σ:St) (γ0:Nat→Option G) (listed:Array Bool) (w0:World) (X:Nat→Prop) (Pr0:Nat→Nat→Prop) (γ:Nat→Option G) (Pr:Nat→Nat→Prop) (a:Act) (w:World):Prop where
 size:listed.size=all.size
 closed : ∀ b o,listed.getD b false=true→all[b]? = some o → ∀ e∈o.after,Region.binds .any e=true→listed.getD e.on false=true
 inv:aO w0 X Pr0 (eN (fun j=>listed.getD j false) T σ.slots) (fB (fun j=>listed.getD j false) T (am σ.res)) γ Pr a w
 low : ∀ r,r < base→γ r=γ0 r
 free : ∀ i,listed.getD i false=false → ∀ r,base+64*i≤r→r < base+64*i+64→γ r=none
theorem EL {all:Array Oper} {base:Nat} {Q:Exit→Act→World→Prop} (hS:fV (iO w0 X) P E call) (hE:dq P E) {γ0:Nat→Option G} {σ:St} {T:List Tr} (hT:T.map (fun τ=>(τ.i,τ.o))=(U4 all.size).zip all.toList)
  (hok : ∀ τ∈T,I1 E call all base τ (eN (fun j=>decide (j < τ.i)) T σ.slots) (fB (fun j=>decide (j < τ.i)) T (am σ.res))) (hord:tX all (Region.before all) (T.map gp).reverse=true) (hedge:xZ all=true)
  (hQ : ∀ γ' Pr' a' w',aO w0 X Pr0 (eN (fun _=>true) T σ.slots) (fB (fun _=>true) T (am σ.res)) γ' Pr' a' w'→(∀ r,r < base→γ' r=γ0 r)→(∀ r,base+64*all.size≤r→γ' r=none)→Q .normal a' w') :
  ∀(fuel:Nat) (listed:Array Bool) (γ:Nat→Option G) (Pr:Nat→Nat→Prop) (a:Act) (w:World),L0 all base T σ γ0 listed w0 X Pr0 γ Pr a w→((U4 all.size).filter fun j => !listed.getD j false).length≤fuel→wpAny P .any all Q fuel listed a w:=by
 have hTi:T.map (·.i)=U4 all.size:=by
  have:=N1 (List.map (·.1)) hT
  rw[List.map_map,(range_zip' all).2] at this
  exact this
 have hTo : ∀ τ∈T,all[τ.i]? = some τ.o:=by
  intro τ hτ
  have:(τ.i,τ.o)∈(U4 all.size).zip all.toList:=by
   rw[←hT]
   exact V7 (f:=fun τ:Tr=>(τ.i,τ.o)) hτ
  exact(range_zip' all).1 _ this
 have hnd:(T.map (·.i)).Nodup:=by rw[hTi]; exact List.nodup_range
 have hpw:T.Pairwise fun x y=>x.i < y.i:=by
  have:(T.map (·.i)).Pairwise (· < ·):=by rw[hTi]; exact List.pairwise_lt_range
  exact W8.1 this
 have hlt : ∀ τ∈T,τ.i < all.size:=fun τ hτ=>(P6.1 (hTo τ hτ)).1
 have hall : ∀ i,i < all.size → ∃ τ∈T,τ.i=i:=by
  intro i hi
  have:i∈T.map (·.i):=by rw[hTi]; exact List.mem_range.2 hi
  obtain⟨τ,h1,h2⟩:=List.mem_map.1 this
  exact⟨τ,h1,h2⟩
 have hcl : ∀ τ∈T,∀ τ'∈T,τ.i < τ'.i→ot all (gp τ) (gp τ')=true→((Region.before all).getD τ'.i 0).testBit τ.i=true:=by
  have h1:=BF hord
  rw[List.pairwise_reverse,W8] at h1
  have h2:T.Pairwise fun x y=>x.i < y.i→ot all (gp x) (gp y)=true→((Region.before all).getD y.i 0).testBit x.i=true:=h1.imp fun h _ hc=>h hc
  intro τ hτ τ' hτ'
  by_cases he:τ=τ'
  ·subst he
   intro h
   omega
  ·rcases pair_of hpw h2 hτ hτ' he with h | ⟨h3,_⟩
   ·exact h
   ·intro h
    omega
 have hdone : ∀(listed:Array Bool) (γ:Nat→Option G) (Pr:Nat→Nat→Prop) (a:Act) (w:World),L0 all base T σ γ0 listed w0 X Pr0 γ Pr a w→(∀ j,j < all.size→listed.getD j false=true)→Q .normal a w:=by
  intro listed γ Pr a w hM hl
  have e : ∀ τ∈T,listed.getD τ.i false=true:=fun τ hτ=>hl _ (hlt τ hτ)
  have h1:=hM.inv
  rw[sM (S':=fun _=>true) e,sN (S':=fun _=>true) e] at h1
  refine hQ γ Pr a w h1 hM.low fun r hr => ?_
  have hge:all.size≤(r - base) / 64:=(Nat.le_div_iff_mul_le (by omega)).2 (by omega)
  have hun:listed.getD ((r - base) / 64) false=false:=by
   rw[Q5,W3 (by rw[hM.size]; exact hge)]
   rfl
  have hdm:=Nat.div_add_mod (r - base) 64
  have hml:=Nat.mod_lt (r - base) (show 0 < 64 by omega)
  exact hM.free _ hun r (by omega) (by omega)
 have hback : ∀(j:Nat) (o:Oper),all[j]? = some o → ∀ e∈o.after,Region.binds .any e=true→e.on < j:=by
  intro j o ho e he hb
  have hj:j < all.size:=(P6.1 ho).1
  have:=(T1.1 hedge) j (List.mem_range.2 hj)
  rw[ho] at this
  have:=(Array.all_eq_true_iff_forall_mem.1 this) e he
  rw[hb] at this
  simpa[Nat.blt_eq] using this
 intro fuel
 induction fuel with
 | zero =>
  intro listed γ Pr a w hM hf
  have hl : ∀ j,j < all.size→listed.getD j false=true:=by
   intro j hj
   cases hh:listed.getD j false with
   | true=>rfl
   | false =>
    have hmem:j∈(U4 all.size).filter fun j => !listed.getD j false:=List.mem_filter.2 ⟨List.mem_range.2 hj,by rw[hh]; rfl⟩
    rw[P8 (Nat.le_zero.1 hf)] at hmem
    simp at hmem
  refine⟨?_,hdone listed γ Pr a w hM hl⟩
  apply List.eq_nil_iff_forall_not_mem.2
  intro j hj
  obtain⟨h1,o,ho,_⟩:=mem_ready.1 hj
  have hjl:j < all.size:=(P6.1 ho).1
  have:=hl j hjl
  rw[Q5,Q4 (by rw[hM.size]; exact hjl)] at this h1
  simp only[S7] at this h1
  rw[this] at h1
  cases h1
 | succ fuel ih =>
  intro listed γ Pr a w hM hf
  have hgetD : ∀ j,j < all.size→listed.getD j true=listed.getD j false:=by
   intro j hj
   rw[Q5,Q5,Q4 (by rw[hM.size]; exact hj)]
   rfl
  refine⟨fun hr=>hdone listed γ Pr a w hM ?_,fun i hi => ?_⟩
  ·intro j
   induction j using Nat.strongRecOn with
   | _ j ihj =>
    intro hj
    cases hh:listed.getD j false with
    | true=>rfl
    | false =>
     have:j∈Region.ready .any all listed:=mem_ready.2 ⟨by rw[hgetD j hj,hh],all[j],Q4 hj,fun e he hb=>by
      have hlt':=hback j _ (Q4 hj) e he hb
      exact ihj e.on hlt' (by omega)⟩
     rw[hr] at this
     simp at this
  ·obtain⟨h1,o,ho,hpre⟩:=mem_ready.1 hi
   have hil:i < all.size:=(P6.1 ho).1
   obtain⟨τ,hτ,rfl⟩:=hall i hil
   have hoτ:=hTo τ hτ
   rw[ho] at hoτ
   cases hoτ
   have hSi:listed.getD τ.i false=false:=by rw[←hgetD _ hil]; exact h1
   have hpast : ∀ τ'∈T,τ'.i < τ.i→ot all (gp τ') (gp τ)=true→listed.getD τ'.i false=true:=by
    intro τ' hτ' hl hc
    exact zr (S:=fun j=>listed.getD j false=true) hM.closed τ.i τ'.i (fun o' ho' e he hb=>by
     rw[ho] at ho'
     cases ho'
     exact hpre e he hb) (hcl τ' hτ' τ hτ hl hc)
   have hnext : ∀ τ'∈T,τ.i < τ'.i→ot all (gp τ) (gp τ')=true→listed.getD τ'.i false=false:=by
    intro τ' hτ' hl hc
    cases hh:listed.getD τ'.i false with
    | false=>rfl
    | true =>
     have:=zr (S:=fun j=>listed.getD j false=true) hM.closed τ'.i τ.i (fun o' ho' e he hb=>hM.closed τ'.i o' hh ho' e he hb) (hcl τ hτ τ' hτ' hl hc)
     simp only[hSi] at this
     cases this
   have hclash : ∀(x y:Tr),x∈T→y∈T→ot all (gp x) (gp y)=(fT x.o.dst.toList (y.o.dst.toList++gT all y.o) || fT y.o.dst.toList (gT all x.o) || fT (x.u.map (·.1)) (y.see++y.u.map (·.1)) || fT (y.u.map (·.1)) x.see):=by
    intro x y hx hy
    unfold ot
    rw[show(gp x).i=x.i from rfl,show(gp y).i=y.i from rfl,hTo x hx,hTo y hy]
    rfl
   have hsl : ∀ t,t∈gT all τ.o→dY (eN (fun j=>listed.getD j false) T σ.slots) t=dY (eN (fun j=>decide (j < τ.i)) T σ.slots) t:=by
    intro t ht
    refine wK (fun τ' hτ' hd => ?_) rfl rfl
    show listed.getD τ'.i false=decide (τ'.i < τ.i)
    rcases Nat.lt_trichotomy τ'.i τ.i with h | h | h
    ·rw[hpast τ' hτ' h (by rw[hclash τ' τ hτ' hτ,hd]; simp[kH (l:=[t]) (m:=τ.o.dst.toList++gT all τ.o) (r:=t) (by simp) (T9 _ ht)])]
     simp[h]
    ·rw[h,hSi]
     simp
    ·rw[hnext τ' hτ' h (by rw[hclash τ τ' hτ hτ',hd]; simp[kH (l:=[t]) (m:=gT all τ.o) (r:=t) (by simp) ht])]
     simp
     omega
   have hgl : ∀ r,r∈τ.see→fB (fun j=>listed.getD j false) T (am σ.res) r=fB (fun j=>decide (j < τ.i)) T (am σ.res) r:=by
    intro r hr
    refine BD (fun τ' hτ' hd => ?_) rfl
    show listed.getD τ'.i false=decide (τ'.i < τ.i)
    rcases Nat.lt_trichotomy τ'.i τ.i with h | h | h
    ·rw[hpast τ' hτ' h (by rw[hclash τ' τ hτ' hτ]; simp[kH (m:=τ.see++τ.u.map (·.1)) hd (U9 _ hr)])]
     simp[h]
    ·rw[h,hSi]
     simp
    ·rw[hnext τ' hτ' h (by rw[hclash τ τ' hτ hτ']; simp[kH (m:=τ.see) hd hr])]
     simp
     omega
   obtain⟨hg,hran,hskip⟩:=hok τ hτ
   have hargs:(ct τ.o.op).map (ev (eN (fun j=>listed.getD j false) T σ.slots))=(ct τ.o.op).map (ev (eN (fun j=>decide (j < τ.i)) T σ.slots)):=by
    apply List.map_congr_left
    intro x hx
    refine I2 fun t ht=>hsl t ?_
    subst ht
    exact U9 _ (Ft hx)
   have hg':eu all τ.o (eN (fun j=>listed.getD j false) T σ.slots) τ.ran:=by
    unfold eu at hg ⊢
    split at hg
    ·exact hg
    ·rename_i j want hgd
     obtain⟨d,h2,h3⟩:=hg
     refine⟨d,h2,?_⟩
     rw[hsl d ?_]
     ·exact h3
     ·unfold gT
      rw[hgd]
      refine T9 _ ?_
      simp only[h2]
      simp
   obtain⟨res,hcore,hknow⟩ : ∃ res,(τ.ran=true→bL E call τ.o ((ct τ.o.op).map (ev (eN (fun j=>listed.getD j false) T σ.slots))) res (base+64*τ.i) bJ=some (τ.v,τ.u)) ∧ ∀ r x,am res r=some x→fB (fun j=>listed.getD j false) T (am σ.res) r=some x:=by
    cases hr:τ.ran with
    | false=>exact⟨[],fun h=>(by cases h),fun r x h=>(by simp[am] at h)⟩
    | true =>
     obtain⟨res,h2,h3⟩:=hran hr
     refine⟨res,fun _=>by rw[hargs]; exact h2,fun r x hx => ?_⟩
     obtain⟨h4,h5⟩:=h3 r x hx
     rw[hgl r h4]
     exact h5
   refine BA hS hE hM.inv ho hg' hcore hknow hskip (hM.free τ.i hSi) ?_
   intro a' w' γ' Pr' hI' hγ'
   have hset : ∀ j,(listed.setIfInBounds τ.i true).getD j false=(listed.getD j false || j == τ.i):=by
    intro j
    by_cases hj:τ.i=j
    ·subst hj
     have:τ.i < listed.size:=by rw[hM.size]; exact hil
     simp[this]
    ·rw[getD_set_ne false hj]
     have:(j == τ.i)=false:=by
      rw[beq_eq_false_iff_ne]
      exact fun e=>hj e.symm
     rw[this,Bool.or_false]
   refine ih (listed.setIfInBounds τ.i true) γ' Pr' a' w' ⟨?_,?_,?_,?_,?_⟩ ?_
   ·rw[Array.size_setIfInBounds]
    exact hM.size
   ·intro b o' hb ho' e he hbd
    rw[hset] at hb
    refine getD_set_true ?_
    by_cases hbi:b=τ.i
    ·subst hbi
     rw[ho] at ho'
     cases ho'
     exact hpre e he hbd
    ·have hb':listed.getD b false=true:=by simpa[hbi] using hb
     exact hM.closed b o' hb' ho' e he hbd
   ·have e1:(fun j=>(listed.setIfInBounds τ.i true).getD j false)=fun j=>listed.getD j false || j == τ.i:=funext hset
    rw[e1]
    rw[wL (S:=fun j=>listed.getD j false) hSi hτ hnd (fun τ' hτ' hs hlt' t hd hd'=>by
     have hm1:fT (some t).toList ((some t).toList++gT all τ'.o)=true:=kH (r:=t) (by simp) (by simp)
     have:=hnext τ' hτ' hlt' (by rw[hclash τ τ' hτ hτ',hd,hd',hm1]; rfl)
     rw[this] at hs
     cases hs) hpw]
    rw[wM (S:=fun j=>listed.getD j false) hSi hτ hnd (fun τ' hτ' hs hlt' r hr hr'=>by
     have:=hnext τ' hτ' hlt' (by rw[hclash τ τ' hτ hτ']; simp[kH (m:=τ'.see++τ'.u.map (·.1)) hr (T9 _ hr')])
     rw[this] at hs
     cases hs) hpw]
    exact hI'
   ·intro r hr
    rw[hγ' r (by rintro⟨h2,_⟩; omega)]
    exact hM.low r hr
   ·intro j hj r h2 h3
    rw[hset] at hj
    simp only[ah_,beq_eq_false_iff_ne] at hj
    have hne:=hj.2
    rw[hγ' r (by
     rintro⟨h4,h5⟩
     rcases Nat.lt_or_gt_of_ne hne with h | h <;> omega)]
    exact hM.free j hj.1 r h2 h3
   ·have:=zu (l:=U4 all.size) (p:=fun j => !listed.getD j false) (q:=fun j => !(listed.setIfInBounds τ.i true).getD j false) (fun x _ hx=>by
     rw[hset] at hx
     simp only[V6,ah_] at hx ⊢
     exact hx.1) ⟨τ.i,List.mem_range.2 hil,by rw[hSi]; rfl,by rw[hset]; simp⟩
    omega
where
 range_zip' (ops:Array Oper):(∀ p∈(U4 ops.size).zip ops.toList,ops[p.1]? = some p.2)∧((U4 ops.size).zip ops.toList).map (·.1)=U4 ops.size:=by
  constructor
  ·intro p hp
   obtain⟨k,hk,rfl⟩:=T6 hp
   rw[List.getElem_zip]
   simp only[List.getElem_range]
   rw[←R9]
   exact N8 _
  ·exact List.map_fst_zip (by simp)
 pair_of {R1 R2:Tr→Tr→Prop} {T:List Tr} (h1:T.Pairwise R1) (h2:T.Pairwise R2) {x y:Tr} (hx:x∈T) (hy:y∈T) (hne:x≠y):R2 x y∨(R1 y x∧R2 y x):=by
  induction T with
  | nil=>simp at hx
  | cons t T ih =>
   rw[T4] at h1 h2
   rcases O9.1 hx with rfl | hx' <;> rcases O9.1 hy with rfl | hy'
   ·exact P1 rfl hne
   ·exact .inl (h2.1 y hy')
   ·exact .inr ⟨h1.1 x hx',h2.1 x hx'⟩
   ·exact ih h1.2 h2.2 hx' hy'
theorem I3 {all:Array Oper} {id:Nat} {base:Nat} {Q:Exit→Act→World→Prop} (hm:P.follows .mixedOrders=true) (hS:fV (iO w0 X) P E call) (hE:dq P E) {γ0:Nat→Option G}
  {σ:St} {γ:Nat→Option G} {Pr:Nat→Nat→Prop} {a:Act} {w:World} (h:bO E call all true base ((U4 all.size).zip all.toList) [] σ K=some z)
   (hI:aO w0 X Pr0 σ.slots (am σ.res) γ Pr a w) (hlow : ∀ r,r < base→γ r=γ0 r) (hhigh : ∀ r,base≤r→γ r=none)
   (hQ : ∀ σ' γ' Pr' a' w',K σ'=some z→aO w0 X Pr0 σ'.slots (am σ'.res) γ' Pr' a' w'→(∀ r,r < base→γ' r=γ0 r)→(∀ r,base+64*all.size≤r→γ' r=none)→σ'.n0=σ.n0→σ'.nx=σ.nx→Q .normal a' w') :
   (Code.region id all true).wp P Q a w:=by
 obtain⟨T,σ',h1,h2,h3,h4,h5,h6,h7,h8,h9⟩:=BE h (by rw[(EL.range_zip' all).2]; exact List.pairwise_lt_range)
 rw[Q9] at h8
 refine wp_region_any hm ?_
 have hnone : ∀ j,(Array.replicate all.size false).getD j false=false:=by
  intro j
  rw[Q5]
  by_cases hj:j < all.size
  ·simp[hj]
  ·rw[W3 (by simpa using hj)]
   rfl
 refine EL hS hE h1 h2 h8 h9 (fun γ' Pr' a' w' hi hl hh=>hQ σ' γ' Pr' a' w' h7 (by rw[h3,h4]; exact hi) hl hh h5 h6) all.size _ γ Pr a _ ⟨by simp,?_,?_,hlow,fun i _ r hr _=>hhigh r (by omega)⟩ ?_
 ·intro b o hb
  rw[hnone] at hb
  cases hb
 ·rw[vw (fun τ _=>hnone τ.i),vx (fun τ _=>hnone τ.i)]
  exact⟨d7 (fun _ _ _ h=>h) (fun _ _ h=>h) hI.slots,hI.defers,hI.gs,hI.wfs,hI.res,hI.apart,hI.loose,hI.where_,hI.frame,hI.size,hI.os,hI.tape,hI.output,hI.prIn,hI.prOld,hI.pr0⟩
 ·refine Q3 (List.length_filter_le _ _) ?_
  simp
end
end Go.Proofs.YtfffplonjaigkaaGreatDoor.Abs
namespace Go.Proofs.YtfffplonjaigkaaGreatDoor.Abs
open Go Go.RowKit
theorem o4 {P:Program} {c:Code} {Q Q':Exit→Act→World→Prop} (hq : ∀ e a w,Q e a w→Q' e a w) : ∀ {n m:Nat},n≤m → ∀ {a:Act} {w:World},Code.rounds P c Q n a w→Code.rounds P c Q' m a w
 | 0,_,_,_,_,h=>h.elim
 | n+1,0,hle,_,_,_=>P1 hle (by omega)
 | n+1,m+1,hle,a,w,h=>by
  refine Code.wp_mono (fun e a w h => ?_) (show c.wp P (Exit.then (Code.rounds P c Q n) Q) a w from h)
  cases e <;> first | exact o4 hq (Nat.le_of_succ_le_succ hle) h | exact hq _ _ _ h
def bH (P:Program) (n:Nat):List Fr→(Exit→Act→World→Prop)→Exit→Act→World→Prop
 | [],Q=>Q
 | .seq b :: S,Q=>Exit.then (b.wp P (bH P n S Q)) (bH P n S Q)
 | .block id :: S,Q=>Exit.inBlock id (bH P n S Q)
 | .loop b :: S,Q=>Exit.then (Code.rounds P b (bH P n S Q) n) (bH P n S Q)
section
variable {P:Program} {E:bK} {Q:Exit→Act→World→Prop}
theorem cG {n m:Nat} (h:n≤m) : ∀(S:List Fr) {e:Exit} {a:Act} {w:World},bH P n S Q e a w→bH P m S Q e a w
 | [],_,_,_,hh=>hh
 | .seq b :: S,e,a,w,hh=>by
  cases e <;> first | exact Code.wp_mono (fun _ _ _ h'=>cG h S h') hh | exact cG h S hh
 | .block id :: S,e,a,w,hh=>by
  cases e with
  | exit j =>
   show if j=id then bH P m S Q .normal a w else bH P m S Q (.exit j) a w
   have hh':if j=id then bH P n S Q .normal a w else bH P n S Q (.exit j) a w:=hh
   split at hh'
   ·rename_i hj
    rw[M5 hj]
    exact cG h S hh'
   ·rename_i hj
    rw[M2 hj]
    exact cG h S hh'
  | _=>exact cG h S hh
 | .loop b :: S,e,a,w,hh=>by
  cases e <;> first | exact o4 (fun _ _ _ h'=>cG h S h') h hh | exact cG h S hh
theorem iP {n:Nat} : ∀(S:List Fr) {a:Act} {w:World},Q .ret a w→bH P n S Q .ret a w
 | [],_,_,h=>h
 | .seq b :: S,_,_,h=>iP S h
 | .block id :: S,_,_,h=>iP S h
 | .loop b :: S,_,_,h=>iP S h
theorem gZ {n:Nat} {I:ak} {id:Nat} : ∀(S:List Fr) {S':List Fr} {a:Act} {w:World},qF I id S=some S'→bH P n S' Q .normal a w→bH P n S Q (.exit id) a w
 | [],_,_,_,h,_=>by simp[qF] at h
 | .seq b :: S,_,_,_,h,k=>gZ (I:=I) S h k
 | .loop b :: S,_,_,_,h,k=>gZ (I:=I) S h k
 | .block j :: S,S',a,w,h,k=>by
  show if id=j then bH P n S Q .normal a w else bH P n S Q (.exit id) a w
  unfold qF at h
  by_cases hj:j=id
  ·subst hj
   have:Q7 j j=true:=by simp
   rw[this] at h
   cases h
   rw[M5 rfl]
   exact k
  ·have:Q7 j id=false:=by
    cases hb:Q7 j id with
    | false=>rfl
    | true=>exact P1 (P2 hb) hj
   rw[this] at h
   rw[M2 (fun e=>hj e.symm)]
   exact gZ (I:=I) S h k
end
structure At (w0:World) (X:Nat→Prop) (Pr0:Nat→Nat→Prop) (γ0:Nat→Option G) (σ:St) (γ:Nat→Option G) (Pr:Nat→Nat→Prop) (a:Act) (w:World):Prop where
 inv:aO w0 X Pr0 σ.slots (am σ.res) γ Pr a w
 low : ∀ r,r < σ.n0→γ r=γ0 r
 high : ∀ r,σ.nx≤r→γ r=none
 le:σ.n0≤σ.nx
section
theorem G7 (r:Nat) (l:List Nat):l <+: tW r l:=by
 unfold tW
 split
 ·exact Z4
 ·exact List.prefix_append _ _
theorem lx {f:List Nat→SV→List Nat} (hf : ∀ l v,l <+: f l v) : ∀(vs:List SV) (l:List Nat),l <+: vs.foldl f l
 | [],l=>Z4
 | v :: vs,l=>(hf l v).trans (lx hf vs (f l v))
theorem ly : ∀(d:Nat) (v:SV) (l:List Nat),l <+: lf d v l
 | 0,_,_=>Z4
 | d+1,v,l=>by
  cases v <;> simp only[lf] <;> first | exact Z4 | exact G7 _ _ | exact lx (fun l v=>ly d v l) _ _
theorem jP (res:ar) : ∀(d j:Nat) (l:List Nat),l <+: mU res d j l
 | 0,_,_=>Z4
 | d+1,j,l=>by
  unfold mU
  split
  ·exact Z4
  ·split
   ·exact(ly 9 _ l).trans (jP res d (j+1) _)
   ·exact(lx (fun l v=>ly 1 v l) _ l).trans (jP res d (j+1) _)
   ·exact(lx (fun l v=>ly 1 v l) _ l).trans (jP res d (j+1) _)
   ·exact jP res d (j+1) l
theorem DG (res:ar) (vs:List SV) (l:List Nat):l <+: gh res vs l:=(lx (fun l v=>ly 9 v l) vs l).trans (jP res 40 0 _)
theorem kI : ∀ n,(jC n).length=n
 | 0=>rfl
 | n+1=>by simp[jC,kI n]
theorem BG : ∀ {n j:Nat},j < n→(jC n)[j]? = some j
 | n+1,j,h=>by
  unfold jC
  by_cases hj:j < n
  ·rw[Q2 (by rw[kI]; exact hj)]
   exact BG hj
  ·have:j=n:=by omega
   subst this
   rw[S5 (by rw[kI]; omega),kI]
   simp
variable {w0:World} {X:Nat→Prop} {Pr0:Nat→Nat→Prop} {γ0 γ:Nat→Option G} {σ:St} {Pr:Nat→Nat→Prop} {a:Act} {w:World}
theorem At.norm (h:At w0 X Pr0 γ0 σ γ Pr a w) (live:List Nat) : ∃ γ',At w0 X Pr0 γ0 (norm live σ) γ' Pr a w:=by
 have hpre:=DG σ.res (lQ live 0 σ.slots) (jC σ.n0)
 have hlen:σ.n0≤(gh σ.res (lQ live 0 σ.slots) (jC σ.n0)).length:=by
  have:=hpre.length_le
  rwa[kI] at this
 obtain⟨γ',h1,h2,h3⟩:=h.inv.norm live
 refine⟨γ',h1,?_,h2,hlen⟩
 intro r hr
 have hr':r < σ.n0:=hr
 rw[←h.low r hr']
 apply h3
 obtain⟨t,ht⟩:=hpre
 rw[←ht,Q2 (by rw[kI]; exact hr')]
 exact BG hr'
end
theorem G8 (ops:Array Oper):(∀ p∈(U4 ops.size).zip ops.toList,ops[p.1]? = some p.2)∧((U4 ops.size).zip ops.toList).map (·.1)=U4 ops.size:=by
 constructor
 ·intro p hp
  obtain⟨k,hk,rfl⟩:=T6 hp
  rw[List.getElem_zip]
  simp only[List.getElem_range]
  rw[←R9]
  exact N8 _
 ·exact List.map_fst_zip (by simp)
section
variable {P:Program} {E:bK}
def A5 (P:Program) (E:bK) (w0:World) (X:Nat→Prop) (k:Nat):Prop := ∀(I:ak) {R:Type} (K:St→Option R) (c:Code) (S:List Fr) (σ:St) (z:R),run E k I K c S σ=some z → ∀(Pr0:Nat→Nat→Prop) (γ0 γ:Nat→Option G) (Pr:Nat→Nat→Prop) (a:Act) (w:World) (Q:Exit→Act→World→Prop),
 At w0 X Pr0 γ0 σ γ Pr a w→(∀ σ' γ' Pr' a' w',K σ'=some z→At w0 X Pr0 γ0 σ' γ' Pr' a' w'→σ'.n0=σ.n0→Q .normal a' w'∧Q .ret a' w') → ∀ n,k≤n→c.wp P (bH P n S Q) a w
def Fu (P:Program) (E:bK) (w0:World) (X:Nat→Prop) (k:Nat):Prop := ∀(I:ak) {R:Type} (K:St→Option R) (S:List Fr) (σ:St) (z:R),mY (run E k) I K S σ=some z → ∀(Pr0:Nat→Nat→Prop) (γ0 γ:Nat→Option G) (Pr:Nat→Nat→Prop) (a:Act) (w:World) (Q:Exit→Act→World→Prop),
 At w0 X Pr0 γ0 σ γ Pr a w→(∀ σ' γ' Pr' a' w',K σ'=some z→At w0 X Pr0 γ0 σ' γ' Pr' a' w'→σ'.n0=σ.n0→Q .normal a' w'∧Q .ret a' w') → ∀ n,k≤n→bH P n S Q .normal a w
theorem vy {I:ak} {R:Type} {K:St→Option R} {c:Code} {S:List Fr} {σ:St}:run E 0 I K c S σ=none:=rfl
theorem jc {k:Nat} {I:ak} {R:Type} {K:St→Option R} {c:Code} {S:List Fr} {σ:St}:run E (k+1) I K c S σ=lR E (run E k) I K c S σ:=rfl
theorem G9 {w0:World} {X:Nat→Prop} (k:Nat) (hR : ∀ j,j≤k→A5 P E w0 X j) : ∀ j,j≤k→Fu P E w0 X j:=by
 intro j
 induction j with
 | zero =>
  intro _ I R K S σ z h Pr0 γ0 γ Pr a w Q hA hQ n hn
  cases S with
  | nil=>exact(hQ σ γ Pr a w h hA rfl).1
  | cons f S=>cases f <;> (simp only[mY,vy] at h; cases h)
 | succ j ih =>
  intro hj I R K S σ z h Pr0 γ0 γ Pr a w Q hA hQ n hn
  cases S with
  | nil=>exact(hQ σ γ Pr a w h hA rfl).1
  | cons f S =>
   cases f with
   | seq b=>exact hR (j+1) hj I K b S σ z h Pr0 γ0 γ Pr a w Q hA hQ n hn
   | block id =>
    simp only[mY,jc,lR] at h
    exact ih (by omega) I K S σ z h Pr0 γ0 γ Pr a w Q hA hQ n (by omega)
   | loop b =>
    simp only[mY,jc,lR] at h
    obtain⟨m,rfl⟩ : ∃ m,n=m+1:=⟨n - 1,by omega⟩
    have:=hR j (by omega) I K b (.loop b :: S) σ z h Pr0 γ0 γ Pr a w Q hA hQ m (by omega)
    show b.wp P (Exit.then (Code.rounds P b (bH P (m+1) S Q) m) (bH P (m+1) S Q)) a w
    refine Code.wp_mono (fun e a w h => ?_) this
    cases e <;> first | exact o4 (fun _ _ _ h'=>cG (by omega) S h') (N4 _) h | exact cG (by omega) S h
theorem KU {w0:World} {X:Nat→Prop} (hm:P.follows .mixedOrders=true) (hE:dq P E) (k:Nat) (hC : ∀ j,j < k→fV (iO w0 X) P E (c7 E (run E j))) : ∀ j,j≤k→A5 P E w0 X j:=by
 intro j
 induction j using Nat.strongRecOn with
 | _ j ih =>
  intro hj I R K c S σ z h Pr0 γ0 γ Pr a w Q hA hQ n hn
  cases j with
  | zero=>rw[vy] at h; cases h
  | succ j =>
   have hpop:Fu P E w0 X j:=G9 j (fun i hi=>ih i (by omega) (by omega)) j (N4 _)
   have hrun:A5 P E w0 X j:=ih j (by omega) (by omega)
   rw[jc] at h
   unfold lR at h
   split at h
   ·exact wp_skip (hpop I K S σ z h Pr0 γ0 γ Pr a w Q hA hQ n (by omega))
   ·rename_i id ops draw
    dsimp only at h
    have hE':dq P {E with sub:=I.sub}:=⟨hE.ty,hE.by_,hE.fns,hE.eqs⟩
    have hC' : ∀ j,j < k→fV (iO w0 X) P {E with sub:=I.sub} (c7 E (run E j)):=hC
    obtain⟨σ1,γ1,hA1,hn0,h1⟩ : ∃ σ1 γ1,At w0 X Pr0 γ0 σ1 γ1 Pr a w∧σ1.n0=σ.n0∧bO {E with sub:=I.sub} (c7 E (run E j)) ops draw σ1.nx ((U4 ops.size).zip ops.toList) [] σ1 (fun σ'=>mY (run E j) I K S {σ' with nx:=σ1.nx+64*ops.size})=some z:=by
     split at h
     ·rename_i l hl
      obtain⟨γ',hA'⟩:=hA.norm l
      exact⟨norm l σ,γ',hA',rfl,h⟩
     ·exact⟨σ,γ,hA,rfl,h⟩
    have hfin : ∀(σ':St) (γ':Nat→Option G) (Pr':Nat→Nat→Prop) (a':Act) (w':World),mY (run E j) I K S {σ' with nx:=σ1.nx+64*ops.size}=some z→aO w0 X Pr0 σ'.slots (am σ'.res) γ' Pr' a' w'→(∀ r,r < σ1.nx→γ' r=γ1 r)→(∀ r,σ1.nx+64*ops.size≤r→γ' r=none)→σ'.n0=σ1.n0→σ'.nx=σ1.nx→bH P n S Q .normal a' w':=by
     intro σ' γ' Pr' a' w' h2 h3 h4 h5 h6 h7
     refine hpop I K S _ z h2 Pr0 γ0 γ' Pr' a' w' Q ⟨h3,?_,h5,?_⟩ (fun σ2 γ2 Pr2 a2 w2 h8 h9 h10=>hQ σ2 γ2 Pr2 a2 w2 h8 h9 ?_) n (by omega)
     ·intro r hr
      have hr':r < σ1.n0:=by rw[←h6]; exact hr
      rw[h4 r (Q8 hr' hA1.le)]
      exact hA1.low r hr'
     ·have:=hA1.le
      show σ'.n0≤σ1.nx+64*ops.size
      omega
     ·exact h10.trans (h6.trans hn0)
    cases draw with
    | false =>
     refine wp_region ?_
     have hz:=G8 ops
     rw[←hz.2]
     refine I0 (γ0:=γ1) (hC' j (by omega)) hE' h1 hz.1 (by rw[hz.2]; exact List.nodup_range) hA1.inv (fun p hp r h2 h3=>hA1.high r (by omega)) (fun r hr=>rfl) (fun p hp=>(P6.1 (hz.1 p hp)).1) (fun r hr=>hA1.high r (by omega)) ?_
     intro σ' γ' Pr' a' w' h2 h3 h4 h5 h6 h7
     exact hfin σ' γ' Pr' a' w' h2 h3 h4 h5 h6 h7
    | true=>exact I3 hm (hC' j (by omega)) hE' (γ0:=γ1) h1 hA1.inv (fun r hr=>rfl) hA1.high hfin
   ·rename_i x y
    refine wp_seq ?_
    exact hrun I K x (.seq y :: S) σ z h Pr0 γ0 γ Pr a w Q hA hQ n (by omega)
   ·rename_i cnd x y
    split at h
    ·rename_i b hb
     have hev:=A4 hA.inv.slots cnd
     rw[hb] at hev
     have hbv:=ez hev
     split at h
     ·rename_i hbt
      rw[show b=true from hbt] at hbv
      exact wp_cond_true hbv (hrun I K x S σ z h Pr0 γ0 γ Pr a w Q hA hQ n (by omega))
     ·rename_i hbf
      have hbf':b=false:=by
       cases hh:(b:Bool) with
       | true=>exact P1 hh hbf
       | false=>rfl
      rw[hbf'] at hbv
      exact wp_cond_false hbv (hrun I K y S σ z h Pr0 γ0 γ Pr a w Q hA hQ n (by omega))
    ·cases h
   ·rename_i id x
    refine wp_block ?_
    exact hrun I K x (.block id :: S) σ z h Pr0 γ0 γ Pr a w Q hA hQ n (by omega)
   ·rename_i x
    refine wp_loop_rounds (n+1) ?_
    exact hrun I K x (.loop x :: S) σ z h Pr0 γ0 γ Pr a w Q hA hQ n (by omega)
   ·rename_i id
    split at h
    ·rename_i S' hS'
     cases j with
     | zero=>rw[vy] at h; cases h
     | succ j =>
      have hpop':Fu P E w0 X j:=G9 j (fun i hi=>ih i (by omega) (by omega)) j (N4 _)
      rw[jc] at h
      simp only[lR] at h
      exact wp_exit (gZ (I:=I) S hS' (hpop' I K S' σ z h Pr0 γ0 γ Pr a w Q hA hQ n (by omega)))
    ·cases h
   ·exact wp_ret (iP S (hQ σ γ Pr a w h hA rfl).2)
   ·cases h
end
end Go.Proofs.YtfffplonjaigkaaGreatDoor.Abs
namespace Go.Proofs.YtfffplonjaigkaaGreatDoor.Abs
open Go Go.RowKit
def jQ (γ γr:Nat→Option G) (ro:List Nat) (n:Nat):Prop := ∀(i r:Nat),ro[i]? = some r→γr (n+i)=γ r
theorem jQ.left {γ γr:Nat→Option G} {a b:List Nat} {n:Nat} (h:jQ γ γr (a++b) n):jQ γ γr a n:=fun i r hr=>h i r (by
 rw[Q2 (N7.1 hr).1]
 exact hr)
theorem jQ.right {γ γr:Nat→Option G} {a b:List Nat} {n:Nat} (h:jQ γ γr (a++b) n):jQ γ γr b (n+a.length):=fun i r hr=>by
 have:=h (a.length+i) r (by
  rw[S5 (by omega)]
  simpa using hr)
 rwa[←T0] at this
section
variable {L:Lk} {γ γr:Nat→Option G} {res:ar} {fr:List Nat}
theorem BH {t:Ty} {v:SV} {x:t.den} (h:dz res (.val t) v=some x):bX res 9 t v=some x:=by
 cases v <;> exact h
theorem m9 {e:TypeId} {t:Ty} {b:Bool} {v:SV} {x:List t.den} (h:dz res (.row e t b) v=some x) : ∃ r,v = .row r∧am res r=some (.row e t x b):=by
 cases v <;> first | (cases h; done) | skip
 rename_i r
 have h':(match am res r with
  | some (.row e' s xs fr')=>match (b == fr') with
   | true=>gk? (t := .slice e' s) (.slice e t) xs
   | false=>none
  | _=>none)=some x:=h
 split at h'
 ·rename_i e' s xs fr' hg
  split at h'
  ·rename_i hb
   obtain⟨he,hx⟩:=fz h'
   cases he
   have hx:xs=x:=hx
   subst hx
   have:b=fr':=by simpa using hb
   subst this
   exact⟨r,rfl,hg⟩
  ·cases h'
 ·cases h'
theorem jR {s:Sh} {v:SV} {x:s.den} (h:dz res (.strct s) v=some x) : ∃ l,v = .strct l∧dz.go res s l=some x:=by
 cases v <;> first | (cases h; done) | skip
 rename_i l
 exact⟨l,rfl,h⟩
theorem fP {a b:Sh} {l:List SV} {x:(Sh.pair a b).den} (h:dz.go res (.pair a b) l=some x) : ∃ v l',l=v :: l'∧dz res a v=some x.1∧dz.go res b l'=some x.2:=by
 cases l with
 | nil=>cases h
 | cons v l =>
  have h':((dz res a v).bind fun x=>(dz.go res b l).bind fun y=>some (x,y))=some x:=h
  rw[M4] at h'
  obtain⟨x1,h1,h'⟩:=h'
  rw[M4] at h'
  obtain⟨x2,h2,h'⟩:=h'
  cases h'
  exact⟨v,l,rfl,h1,h2⟩
theorem sO {l:List SV} {x:Sh.unit.den} (h:dz.go res .unit l=some x):l=[]:=by
 cases l with
 | nil=>rfl
 | cons v l=>cases h
theorem dU (hR:eA L γ res (fun r=>r∈fr)) (hT:jG γ res) : ∀(s:Sh),(∀(t0:Ty) (v:SV) (cs:List Value) (x:s.den) (n:Nat),RT L γ t0 v cs→dz res s v=some x→(∀ r∈cZ s v,r∈fr)→jQ γ γr (ao s v) n → ∃ t,qE s=some t∧RT L γr t (ap s x n).1 cs) ∧
  (∀(t0:Ty) (l:List SV) (cs:List Value) (x:s.den) (n:Nat),dJ L γ t0 l cs→dz.go res s l=some x→(∀ r∈cZ.go s l,r∈fr)→jQ γ γr (ao.go s l) n → ∃ t,qE.go s=some t∧dJ L γr t (ap.go s x n).1 cs)
 | .val t=>⟨fun t0 v cs x n hv h hf hn=>by
   have hk:=mZ hR 9 9 (N4 _) (by
    intro r hr
    exact hf r (by cases v <;> exact hr)) hv (BH h)
   exact⟨t,rfl,.val hk⟩,fun t0 l cs x n hv h hf hn=>by cases l <;> cases h⟩
 | .row e t b=>⟨fun t0 v cs x n hv h hf hn=>by
   obtain⟨r,rfl,hg⟩:=m9 h
   cases hv with
   | row hγ =>
    obtain⟨v',hv'⟩:=hT r e t x (.inl ⟨b,hg⟩)
    rw[hγ] at hv'
    cases hv'
    refine⟨_,rfl,RT.row ?_⟩
    have:=hn 0 r rfl
    rw[U6] at this
    rw[this]
    exact hγ,fun t0 l cs x n hv h hf hn=>by cases l <;> cases h⟩
 | .unit=>⟨(fun t0 v cs x n hv h hf hn=>by cases v <;> cases h),fun t0 l cs x n hv h hf hn=>by
   have:=sO h
   subst this
   cases hv
   exact⟨.unit,rfl,.nil⟩⟩
 | .ptr t=>⟨(fun t0 v cs x n hv h hf hn=>by cases v <;> cases h),fun t0 l cs x n hv h hf hn=>by cases l <;> cases h⟩
 | .strct s=>⟨fun t0 v cs x n hv h hf hn=>by
   obtain⟨l,rfl,h'⟩:=jR h
   cases hv with
   | strct hl =>
    obtain⟨t,h1,h2⟩:=(dU hR hT s).2 _ l cs x n hl h' hf hn
    refine⟨.agg t,?_,.strct h2⟩
    show(qE.go s).map Ty.agg=_
    rw[h1]
    rfl,fun t0 l cs x n hv h hf hn=>by cases l <;> cases h⟩
 | .pair a b=>⟨(fun t0 v cs x n hv h hf hn=>by cases v <;> cases h),fun t0 l cs x n hv h hf hn=>by
   obtain⟨v,l',rfl,h1,h2⟩:=fP h
   cases hv with
   | cons hv hk =>
    have hro:ao.go (.pair a b) (v :: l')=ao a v++ao.go b l':=rfl
    rw[hro] at hn
    have hc:=(give_count a).1 v x.1 n h1
    obtain⟨t1,h3,h4⟩:=(dU hR hT a).1 _ v _ x.1 n hv h1 (fun r hr=>hf r (U9 _ hr)) hn.left
    obtain⟨t2,h5,h6⟩:=(dU hR hT b).2 _ l' _ x.2 (ap a x.1 n).2.2 hk h2 (fun r hr=>hf r (T9 _ hr)) (by rw[hc]; exact hn.right)
    refine⟨.pair t1 t2,?_,.cons h4 h6⟩
    show((qE a).bind fun t=>(qE.go b).map fun u=>Ty.pair t u)=_
    rw[h3,h5]
    rfl⟩
where
 give_count : ∀(s:Sh),(∀(v:SV) (x:s.den) (n:Nat),dz res s v=some x→(ap s x n).2.2=n+(ao s v).length)∧(∀(l:List SV) (x:s.den) (n:Nat),dz.go res s l=some x→(ap.go s x n).2.2=n+(ao.go s l).length)
  | .val t=>⟨fun v x n h=>by cases v <;> rfl,fun l x n h=>by cases l <;> cases h⟩
  | .row e t b=>⟨fun v x n h=>by
    obtain⟨r,rfl,hg⟩:=m9 h
    rfl,fun l x n h=>by cases l <;> cases h⟩
  | .unit=>⟨(fun v x n h=>by cases v <;> cases h),fun l x n h=>by
    have:=sO h
    subst this
    rfl⟩
  | .ptr t=>⟨(fun v x n h=>by cases v <;> cases h),fun l x n h=>by cases l <;> cases h⟩
  | .strct s=>⟨fun v x n h=>by
    obtain⟨l,rfl,h'⟩:=jR h
    exact(give_count s).2 l x n h',fun l x n h=>by cases l <;> cases h⟩
  | .pair a b=>⟨(fun v x n h=>by cases v <;> cases h),fun l x n h=>by
    obtain⟨v,l',rfl,h1,h2⟩:=fP h
    show(ap.go b x.2 (ap a x.1 n).2.2).2.2=n+(ao a v++ao.go b l').length
    rw[(give_count b).2 l' x.2 _ h2,(give_count a).1 v x.1 n h1,M6]
    omega⟩
theorem t8 (hR:eA L γ res (fun r=>r∈fr)) (hT:jG γ res) {s:Sh} {v:SV} {u:Value} {x:s.den} {n:Nat} (hv:RV L γ v u) (h:dz res s v=some x) (hf : ∀ r∈cZ s v,r∈fr) (hn:jQ γ γr (ao s v) n):RV L γr (ap s x n).1 u:=by
 cases s with
 | val t =>
  obtain⟨cs,rfl,hk⟩:=d8 hR (d':=9) (N4 _) (by
   intro r hr
   exact hf r (by cases v <;> exact hr)) hv (BH h)
  exact .val hk
 | row e t b =>
  obtain⟨r,rfl,hg⟩:=m9 h
  cases hv with
  | row hγ =>
   have:=hn 0 r rfl
   rw[U6] at this
   exact .row (this.trans hγ)
 | unit=>cases v <;> cases h
 | ptr t=>cases v <;> cases h
 | pair a b=>cases v <;> cases h
 | strct s =>
  obtain⟨l,rfl,h'⟩:=jR h
  cases hv with
  | strct hl =>
   obtain⟨t,h1,h2⟩:=(dU hR hT s).2 _ l _ x n hl h' hf hn
   exact .strct h2
theorem lz : ∀(s:Sh),(∀(v:SV) (x:s.den) (n:Nat),dz res s v=some x → ∀ p∈(ap s x n).2.1,∃(i r:Nat) (e:TypeId) (t:Ty) (xs:List t.den) (b:Bool),p=(n+i,some (.row e t xs b))∧(ao s v)[i]? = some r∧am res r=some (.row e t xs b)) ∧
  (∀(l:List SV) (x:s.den) (n:Nat),dz.go res s l=some x → ∀ p∈(ap.go s x n).2.1,∃(i r:Nat) (e:TypeId) (t:Ty) (xs:List t.den) (b:Bool),p=(n+i,some (.row e t xs b))∧(ao.go s l)[i]? = some r∧am res r=some (.row e t xs b))
 | .val t=>⟨fun v x n h p hp=>by simp[ap] at hp,fun l x n h=>by cases l <;> cases h⟩
 | .row e t b=>⟨fun v x n h p hp=>by
   obtain⟨r,rfl,hg⟩:=m9 h
   simp only[ap,P0] at hp
   exact⟨0,r,e,t,x,b,hp,rfl,hg⟩,fun l x n h=>by cases l <;> cases h⟩
 | .unit=>⟨(fun v x n h=>by cases v <;> cases h),fun l x n h p hp=>by simp[ap.go] at hp⟩
 | .ptr t=>⟨(fun v x n h p hp=>by cases v <;> cases h),fun l x n h=>by cases l <;> cases h⟩
 | .strct s=>⟨fun v x n h p hp=>by
   obtain⟨l,rfl,h'⟩:=jR h
   exact(lz s).2 l x n h' p hp,fun l x n h=>by cases l <;> cases h⟩
 | .pair a b=>⟨(fun v x n h=>by cases v <;> cases h),fun l x n h p hp=>by
   obtain⟨v,l',rfl,h1,h2⟩:=fP h
   have hp':p∈(ap a x.1 n).2.1++(ap.go b x.2 (ap a x.1 n).2.2).2.1:=hp
   have hro:ao.go (.pair a b) (v :: l')=ao a v++ao.go b l':=rfl
   rw[hro]
   rcases R4.1 hp' with hp | hp
   ·obtain⟨i,r,e,t,xs,b',h3,h4,h5⟩:=(lz a).1 v x.1 n h1 p hp
    exact⟨i,r,e,t,xs,b',h3,by rw[Q2 (N7.1 h4).1]; exact h4,h5⟩
   ·obtain⟨i,r,e,t,xs,b',h3,h4,h5⟩:=(lz b).2 l' x.2 _ h2 p hp
    have hc:=(dU.give_count a).1 v x.1 n h1
    refine⟨(ao a v).length+i,r,e,t,xs,b',?_,?_,h5⟩
    ·rw[h3,hc,T0]
    ·rw[S5 (by omega)]
     simpa using h4⟩
variable {n0:Nat}
theorem ox {t:Ty} {v:SV} {x:t.den} (h:lh n0 res (.ptr t) v=some x) : ∃ r c,v = .ptr r t []∧n0≤r∧am res r=some (.box t c)∧bX [] 9 t c=some x:=by
 unfold lh at h
 cases v <;> first | (cases h; done) | skip
 rename_i r s p
 cases p with
 | cons _ _=>cases h
 | nil =>
  simp only at h
  split at h
  ·rename_i t' c hb hg
   split at h
   ·rename_i hs
    split at h
    ·rename_i ht
     subst hs
     subst ht
     exact⟨r,c,rfl,Nat.le_of_ble_eq_true hb,hg,h⟩
    ·cases h
   ·cases h
  ·cases h
theorem iv {a b:Sh} {l:List SV} {x:(Sh.pair a b).den} (h:gx n0 res (.pair a b) l=some x) : ∃ v l',l=v :: l'∧lh n0 res a v=some x.1∧gx n0 res b l'=some x.2:=by
 cases l with
 | nil=>cases h
 | cons v l =>
  have h':((lh n0 res a v).bind fun x=>(gx n0 res b l).bind fun y=>some (x,y))=some x:=h
  rw[M4] at h'
  obtain⟨x1,h1,h'⟩:=h'
  rw[M4] at h'
  obtain⟨x2,h2,h'⟩:=h'
  cases h'
  exact⟨v,l,rfl,h1,h2⟩
theorem lk {l:List SV} {x:Sh.unit.den} (h:gx n0 res .unit l=some x):l=[]:=by
 cases l with
 | nil=>rfl
 | cons v l=>cases h
theorem sP : ∀(s:Sh) (v:SV) (x:s.den) (n:Nat),lh n0 res s v=some x→(ap s x n).2.2=n+(ao s v).length:=by
 intro s v x n h
 cases s with
 | val t=>exact(dU.give_count (res:=res) (.val t)).1 v x n h
 | row e t b=>exact(dU.give_count (res:=res) (.row e t b)).1 v x n h
 | strct s=>exact(dU.give_count (res:=res) (.strct s)).1 v x n h
 | pair a b =>
  have h':dz res (.pair a b) v=some x:=h
  cases v <;> cases h'
 | unit=>cases v <;> rfl
 | ptr t =>
  obtain⟨r,c,rfl,_⟩:=ox h
  rfl
theorem wN : ∀(s:Sh) (l:List SV) (x:s.den) (n:Nat),gx n0 res s l=some x→(ap.go s x n).2.2=n+(ao.go s l).length
 | .val t,l,x,n,h=>by cases l <;> cases h
 | .row e t b,l,x,n,h=>by cases l <;> cases h
 | .strct s,l,x,n,h=>by cases l <;> cases h
 | .ptr t,l,x,n,h=>by cases l <;> cases h
 | .unit,l,x,n,h=>by
  have:=lk h
  subst this
  rfl
 | .pair a b,l,x,n,h=>by
  obtain⟨v,l',rfl,h1,h2⟩:=iv h
  show(ap.go b x.2 (ap a x.1 n).2.2).2.2=n+(ao a v++ao.go b l').length
  rw[wN b l' x.2 _ h2,sP a v x.1 n h1,M6]
  omega
theorem KV (hR:eA L γ res (fun r=>r∈fr)) (hT:jG γ res) {s:Sh} {v:SV} {u:Value} {x:s.den} {n:Nat} (hv:RV L γ v u) (h:lh n0 res s v=some x) (hf : ∀ r∈cZ s v,r∈fr) (hn:jQ γ γr (ao s v) n):RV L γr (ap s x n).1 u:=by
 cases s with
 | val t=>exact t8 hR hT hv (s := .val t) h hf hn
 | row e t b=>exact t8 hR hT hv (s := .row e t b) h hf hn
 | strct s=>exact t8 hR hT hv (s := .strct s) h hf hn
 | pair a b=>exact t8 hR hT hv (s := .pair a b) h hf hn
 | unit=>exact .undef
 | ptr t =>
  obtain⟨r,c,rfl,_⟩:=ox h
  cases hv with
  | ptr hk hp =>
   have h1:=hn 0 r rfl
   rw[U6] at h1
   exact .ptr (h1.trans hk) hp
theorem BI (hR:eA L γ res (fun r=>r∈fr)) (hT:jG γ res) : ∀(s:Sh) (l:List SV) (us:List Value) (x:s.den) (n:Nat),bE L γ l us→gx n0 res s l=some x→(∀ r∈cZ.go s l,r∈fr)→jQ γ γr (ao.go s l) n→bE L γr (ap.go s x n).1 us
 | .val t,l,us,x,n,hv,h,hf,hn=>by cases l <;> cases h
 | .row e t b,l,us,x,n,hv,h,hf,hn=>by cases l <;> cases h
 | .strct s,l,us,x,n,hv,h,hf,hn=>by cases l <;> cases h
 | .ptr t,l,us,x,n,hv,h,hf,hn=>by cases l <;> cases h
 | .unit,l,us,x,n,hv,h,hf,hn=>by
  have:=lk h
  subst this
  cases hv
  exact .nil
 | .pair a b,l,us,x,n,hv,h,hf,hn=>by
  obtain⟨v,l',rfl,h1,h2⟩:=iv h
  cases hv with
  | cons hv hk =>
   have hro:ao.go (.pair a b) (v :: l')=ao a v++ao.go b l':=rfl
   rw[hro] at hn
   have hc:=sP a v x.1 n h1
   exact .cons (KV hR hT hv h1 (fun r hr=>hf r (U9 _ hr)) hn.left)
    (BI hR hT b l' _ x.2 (ap a x.1 n).2.2 hk h2 (fun r hr=>hf r (T9 _ hr)) (by rw[hc]; exact hn.right))
def ll (n0:Nat) (res:ar) (r:Nat) (y:aE):Prop:=(∃(e:TypeId) (t:Ty) (xs:List t.den) (b:Bool),y = .row e t xs b∧am res r=some y) ∨ ∃(t:Ty) (c:SV) (x:t.den),y = .box t (ee (.val t x))∧n0≤r∧am res r=some (.box t c)∧bX [] 9 t c=some x
theorem ll.old {r:Nat} {y:aE} (h:ll n0 res r y) : ∃ y0,am res r=some y0∧(∀(γ:Nat→Option G) r,aQ γ r y0=aQ γ r y) ∧ ∀ o,eP y0 o→eP y o:=by
 rcases h with⟨e,t,xs,b,rfl,hg⟩ | ⟨t,c,x,rfl,_,hg,_⟩
 ·exact⟨_,hg,fun _ _=>rfl,fun _ h=>h⟩
 ·exact⟨_,hg,fun _ _=>rfl,fun _ h=>h⟩
theorem I4 : ∀(s:Sh) (v:SV) (x:s.den) (n:Nat),lh n0 res s v=some x→(∀ p∈(ap s x n).2.1,∃(i r:Nat) (y:aE),p=(n+i,some y)∧(ao s v)[i]? = some r∧ll n0 res r y):=by
 intro s v x n h p hp
 have old:(dz res s v=some x) → ∃(i r:Nat) (y:aE),p=(n+i,some y)∧(ao s v)[i]? = some r∧ll n0 res r y:=fun h=>by
  obtain⟨i,r,e,t,xs,b,h1,h2,h3⟩:=(lz s).1 v x n h p hp
  exact⟨i,r,_,h1,h2,.inl ⟨e,t,xs,b,rfl,h3⟩⟩
 cases s with
 | val t=>exact old h
 | row e t b=>exact old h
 | strct s=>exact old h
 | pair a b=>exact old h
 | unit=>simp[ap] at hp
 | ptr t =>
  obtain⟨r,c,rfl,h1,h2,h3⟩:=ox h
  simp only[ap,P0] at hp
  exact⟨0,r,_,hp,rfl,.inr ⟨t,c,x,rfl,h1,h2,h3⟩⟩
theorem zv : ∀(s:Sh) (l:List SV) (x:s.den) (n:Nat),gx n0 res s l=some x → ∀ p∈(ap.go s x n).2.1,∃(i r:Nat) (y:aE),p=(n+i,some y)∧(ao.go s l)[i]? = some r∧ll n0 res r y
 | .val t,l,x,n,h=>by cases l <;> cases h
 | .row e t b,l,x,n,h=>by cases l <;> cases h
 | .strct s,l,x,n,h=>by cases l <;> cases h
 | .ptr t,l,x,n,h=>by cases l <;> cases h
 | .unit,l,x,n,h=>fun p hp=>by simp[ap.go] at hp
 | .pair a b,l,x,n,h=>fun p hp=>by
  obtain⟨v,l',rfl,h1,h2⟩:=iv h
  have hp':p∈(ap a x.1 n).2.1++(ap.go b x.2 (ap a x.1 n).2.2).2.1:=hp
  have hro:ao.go (.pair a b) (v :: l')=ao a v++ao.go b l':=rfl
  rw[hro]
  rcases R4.1 hp' with hp | hp
  ·obtain⟨i,r,y,h3,h4,h5⟩:=I4 a v x.1 n h1 p hp
   exact⟨i,r,y,h3,by rw[Q2 (N7.1 h4).1]; exact h4,h5⟩
  ·obtain⟨i,r,y,h3,h4,h5⟩:=zv b l' x.2 _ h2 p hp
   have hc:=sP a v x.1 n h1
   refine⟨(ao a v).length+i,r,y,?_,?_,h5⟩
   ·rw[h3,hc,T0]
   ·rw[S5 (by omega)]
    simpa using h4
end
end Go.Proofs.YtfffplonjaigkaaGreatDoor.Abs
namespace Go.Proofs.YtfffplonjaigkaaGreatDoor.Abs
open Go Go.RowKit
section
variable {L:Lk} {γ γr:Nat→Option G} {res:ar} {fr:List Nat}
theorem KW {n0:Nat} {s:Sh} {v:SV} {x:s.den} (h:lh n0 res s v=some x):v ≠ .undef:=by
 rintro rfl
 cases s <;> first | (cases h; done) | skip
theorem EM {n0:Nat} : ∀ {s:Sh} {l:List SV} {x:s.den},gx n0 res s l=some x → ∀ v∈l,v ≠ .undef
 | .val t,l,x,h=>by cases l <;> cases h
 | .row e t b,l,x,h=>by cases l <;> cases h
 | .strct s,l,x,h=>by cases l <;> cases h
 | .ptr t,l,x,h=>by cases l <;> cases h
 | .unit,l,x,h=>by
  have:=lk h
  subst this
  intro v hv
  simp at hv
 | .pair a b,l,x,h=>by
  obtain⟨v,l',rfl,h1,h2⟩:=iv h
  intro u hu
  rcases O9.1 hu with rfl | hu
  ·exact KW h1
  ·exact EM h2 u hu
theorem na : ∀(s:Sh),(∀(v:SV) (x:s.den),dz res s v=some x → ∀ r∈ao s v,∃(e:TypeId) (t:Ty) (xs:List t.den) (b:Bool),am res r=some (.row e t xs b)) ∧
  (∀(l:List SV) (x:s.den),dz.go res s l=some x → ∀ r∈ao.go s l,∃(e:TypeId) (t:Ty) (xs:List t.den) (b:Bool),am res r=some (.row e t xs b))
 | .val t=>⟨fun v x h r hr=>by cases v <;> simp[ao] at hr,fun l x h=>by cases l <;> cases h⟩
 | .row e t b=>⟨fun v x h r hr=>by
   obtain⟨r',rfl,hg⟩:=m9 h
   have:r=r':=by simpa[ao] using hr
   subst this
   exact⟨e,t,x,b,hg⟩,fun l x h=>by cases l <;> cases h⟩
 | .unit=>⟨fun v x h=>(by cases v <;> cases h),fun l x h r hr=>by
   have:=sO h
   subst this
   simp[ao.go] at hr⟩
 | .ptr t=>⟨fun v x h=>(by cases v <;> cases h),fun l x h=>by cases l <;> cases h⟩
 | .strct s=>⟨fun v x h=>by
   obtain⟨l,rfl,h'⟩:=jR h
   exact(na s).2 l x h',fun l x h=>by cases l <;> cases h⟩
 | .pair a b=>⟨fun v x h=>(by cases v <;> cases h),fun l x h r hr=>by
   obtain⟨v,l',rfl,h1,h2⟩:=fP h
   have hr':r∈ao a v++ao.go b l':=hr
   rcases R4.1 hr' with hr | hr
   ·exact(na a).1 v x.1 h1 r hr
   ·exact(na b).2 l' x.2 h2 r hr⟩
theorem Kc {n0:Nat} : ∀(s:Sh) (v:SV) (x:s.den),lh n0 res s v=some x → ∀ r∈ao s v,∃ y,ll n0 res r y:=by
 intro s v x h r hr
 have old:dz res s v=some x → ∃ y,ll n0 res r y:=fun h=>by
  obtain⟨e,t,xs,b,hg⟩:=(na s).1 v x h r hr
  exact⟨_,.inl ⟨e,t,xs,b,rfl,hg⟩⟩
 cases s with
 | val t=>exact old h
 | row e t b=>exact old h
 | strct s=>exact old h
 | pair a b=>exact old h
 | unit=>cases v <;> simp[ao] at hr
 | ptr t =>
  obtain⟨r',c,rfl,h1,h2,h3⟩:=ox h
  have:r=r':=by simpa[ao] using hr
  subst this
  exact⟨_,.inr ⟨t,c,x,rfl,h1,h2,h3⟩⟩
theorem BJ {n0:Nat} : ∀(s:Sh) (l:List SV) (x:s.den),gx n0 res s l=some x → ∀ r∈ao.go s l,∃ y,ll n0 res r y
 | .val t,l,x,h=>by cases l <;> cases h
 | .row e t b,l,x,h=>by cases l <;> cases h
 | .strct s,l,x,h=>by cases l <;> cases h
 | .ptr t,l,x,h=>by cases l <;> cases h
 | .unit,l,x,h=>fun r hr=>by
  have:=lk h
  subst this
  simp[ao.go] at hr
 | .pair a b,l,x,h=>fun r hr=>by
  obtain⟨v,l',rfl,h1,h2⟩:=iv h
  have hr':r∈ao a v++ao.go b l':=hr
  rcases R4.1 hr' with hr | hr
  ·exact Kc a v x.1 h1 r hr
  ·exact BJ b l' x.2 h2 r hr
theorem lA {rb:Bool} (hR:eA L γ res (fun r=>r∈fr)) (hT:jG γ res) : ∀(tab:ar) (s:Sh) (cs:List SV) (y:s.den) (n:Nat) (ub:List (Option aE)),gU rb res tab=some cs→dz.go res s cs=some y→bI rb tab (ap.go s y n).1 (lg s)=some ub →
  (∀ r∈cZ.go s cs,r∈fr)→jQ γ γr (ao.go s cs) n → ∀(j:Nat) (t:Ty) (c':SV),ub[j]? = some (some (.box t c')) → ∃(key:Nat) (c c0:SV),tab[j]? = some (key,.box t c0)∧am res key=some (.box t c) ∧ ∀ cells,RT L γ t c cells→RT L γr t c' cells
 | [],s,cs,y,n,ub,_,_,hb,_,_,j,t,c',hj=>by
  have:=(fo hb).1
  rw[P8 this] at hj
  simp at hj
 | (k,.row e t0 xs fr0) :: l,s,cs,y,n,ub,hbx,ho,hb,hf,hn,j,t,c',hj=>by
  cases rb with
  | false =>
   unfold bI at hb
   simp only[M4,O2] at hb
   obtain⟨u',h1,rfl⟩:=hb
   have hbx':gU false res l=some cs:=hbx
   cases j with
   | zero=>simp at hj
   | succ j =>
    obtain⟨key,c,c0,h2,h3,h4⟩:=lA hR hT l s cs y n u' hbx' ho h1 hf hn j t c' (by simpa using hj)
    exact⟨key,c,c0,by simpa using h2,h3,h4⟩
  | true =>
   unfold gU at hbx
   simp only[M4,O2] at hbx
   obtain⟨cs',h1,rfl⟩:=hbx
   cases s with
   | val _=>cases ho
   | row _ _ _=>cases ho
   | strct _=>cases ho
   | ptr _=>cases ho
   | unit=>cases ho
   | pair a b =>
    obtain⟨v,l',he,h2,h3⟩:=fP ho
    cases he
    have hro:ao.go (.pair a b) (.row k :: cs')=ao a (.row k)++ao.go b cs':=rfl
    rw[hro] at hn
    have hc:=(dU.give_count a).1 (.row k) y.1 n h2
    have hmk:(ap.go (.pair a b) y n).1=(ap a y.1 n).1 :: (ap.go b y.2 (ap a y.1 n).2.2).1:=rfl
    rw[hmk] at hb
    have hst:lg (.pair a b)=qE a :: lg b:=rfl
    rw[hst] at hb
    unfold bI at hb
    simp only at hb
    split at hb
    ·rename_i m1 vs1 s1 ts1 hv1 hs1
     obtain⟨_,rfl⟩:=Y8 hv1
     obtain⟨_,rfl⟩:=Y8 hs1
     simp only[M4,O2] at hb
     obtain⟨u',h4,rfl⟩:=hb
     cases j with
     | zero=>simp at hj
     | succ j =>
      obtain⟨key,c1,c2,h5,h6,h7⟩:=lA hR hT l b cs' y.2 (ap a y.1 n).2.2 u' h1 h3 h4 (fun r hr=>hf r (T9 _ hr)) (by rw[hc]; exact hn.right) j t c' (by simpa using hj)
      exact⟨key,c1,c2,by simpa using h5,h6,h7⟩
    ·cases hb
 | (k,.old e t0 xs) :: l,s,cs,y,n,ub,hbx,ho,hb,hf,hn,j,t,c',hj=>by
  unfold bI at hb
  simp only[M4] at hb
  obtain⟨u',h1,he⟩:=hb
  cases he
  cases j with
  | zero=>simp at hj
  | succ j =>
   obtain⟨key,c,c0,h2,h3,h4⟩:=lA hR hT l s cs y n u' hbx ho h1 hf hn j t c' (by simpa using hj)
   exact⟨key,c,c0,by simpa using h2,h3,h4⟩
 | (k,.gone e t0 xs) :: l,s,cs,y,n,ub,hbx,ho,hb,hf,hn,j,t,c',hj=>by
  unfold bI at hb
  simp only[M4] at hb
  obtain⟨u',h1,he⟩:=hb
  cases he
  cases j with
  | zero=>simp at hj
  | succ j =>
   obtain⟨key,c,c0,h2,h3,h4⟩:=lA hR hT l s cs y n u' hbx ho h1 hf hn j t c' (by simpa using hj)
   exact⟨key,c,c0,by simpa using h2,h3,h4⟩
 | (k,.keepF g0 caps0) :: l,s,cs,y,n,ub,hbx,ho,hb,hf,hn,j,t,c',hj=>by
  unfold bI at hb
  simp only[M4] at hb
  obtain⟨u',h1,he⟩:=hb
  cases he
  cases j with
  | zero=>simp at hj
  | succ j =>
   obtain⟨key,c,c0,h2,h3,h4⟩:=lA hR hT l s cs y n u' hbx ho h1 hf hn j t c' (by simpa using hj)
   exact⟨key,c,c0,by simpa using h2,h3,h4⟩
 | (k,.rowP g0 caps0) :: l,s,cs,y,n,ub,hbx,ho,hb,hf,hn,j,t,c',hj=>by
  unfold bI at hb
  simp only[M4] at hb
  obtain⟨u',h1,he⟩:=hb
  cases he
  cases j with
  | zero=>simp at hj
  | succ j =>
   obtain⟨key,c,c0,h2,h3,h4⟩:=lA hR hT l s cs y n u' hbx ho h1 hf hn j t c' (by simpa using hj)
   exact⟨key,c,c0,by simpa using h2,h3,h4⟩
 | (k,.box t0 c0) :: l,s,cs,y,n,ub,hbx,ho,hb,hf,hn,j,t,c',hj=>by
  unfold gU at hbx
  split at hbx
  ·rename_i t' c hg
   split at hbx
   ·rename_i htt
    subst htt
    rw[M4] at hbx
    obtain⟨cs',h1,he⟩:=hbx
    cases he
    cases s with
    | val _=>cases ho
    | row _ _ _=>cases ho
    | strct _=>cases ho
    | ptr _=>cases ho
    | unit=>cases ho
    | pair a b =>
     obtain⟨v,l',he,h2,h3⟩:=fP ho
     cases he
     have hro:ao.go (.pair a b) (c :: cs')=ao a c++ao.go b cs':=rfl
     rw[hro] at hn
     have hc:=(dU.give_count a).1 c y.1 n h2
     have hmk:(ap.go (.pair a b) y n).1=(ap a y.1 n).1 :: (ap.go b y.2 (ap a y.1 n).2.2).1:=rfl
     rw[hmk] at hb
     have hst:lg (.pair a b)=qE a :: lg b:=rfl
     rw[hst] at hb
     unfold bI at hb
     split at hb
     ·rename_i v1 vs1 s1 ts1 hv1 hs1
      cases hv1
      obtain⟨hs2,rfl⟩:=Y8 hs1
      split at hb
      ·rename_i hs1t
       rw[M4] at hb
       obtain⟨u',h4,he⟩:=hb
       cases he
       cases j with
       | zero =>
        simp only[List.getElem?_cons_zero,O2,aE.box.injEq] at hj
        obtain⟨rfl,rfl⟩:=hj
        refine⟨k,c,c0,rfl,hg,fun cells hcells => ?_⟩
        obtain⟨t2,h5,h6⟩:=(dU hR hT a).1 _ c cells y.1 n hcells h2 (fun r hr=>hf r (U9 _ hr)) hn.left
        rw[hs2] at h5
        cases h5
        rw[←hs1t]
        exact h6
       | succ j =>
        obtain⟨key,c1,c2,h5,h6,h7⟩:=lA hR hT l b cs' y.2 (ap a y.1 n).2.2 u' h1 h3 h4 (fun r hr=>hf r (T9 _ hr)) (by rw[hc]; exact hn.right) j t c' (by simpa using hj)
        exact⟨key,c1,c2,by simpa using h5,h6,h7⟩
      ·cases hb
     ·cases hb
   ·cases hbx
  ·cases hbx
theorem jv {rb:Bool} : ∀(tab:ar) (s:Sh) (cs:List SV) (y:s.den) (n:Nat),gU rb res tab=some cs→dz.go res s cs=some y→jQ γ γr (ao.go s cs) n → ∀ p∈ce rb tab (ap.go s y n).1,γr p.1=γ p.2
 | [],s,cs,y,n,_,_,_,p,hp=>by
  generalize (ap.go s y n).1=bs at hp
  cases bs <;> simp[ce] at hp
 | (k,.box t0 c0) :: l,s,cs,y,n,hbx,ho,hn,p,hp=>by
  unfold gU at hbx
  split at hbx
  ·split at hbx
   ·simp only[M4,O2] at hbx
    obtain⟨cs',h1,rfl⟩:=hbx
    cases s with
    | val _=>cases ho
    | row _ _ _=>cases ho
    | strct _=>cases ho
    | ptr _=>cases ho
    | unit=>cases ho
    | pair a b =>
     obtain⟨v,l',he,h2,h3⟩:=fP ho
     cases he
     have hro : ∀ c,ao.go (.pair a b) (c :: cs')=ao a c++ao.go b cs':=fun _=>rfl
     rw[hro] at hn
     have hc:=(dU.give_count a).1 _ y.1 n h2
     have hp':p∈ce rb l (ap.go b y.2 (ap a y.1 n).2.2).1:=hp
     exact jv l b cs' y.2 _ h1 h3 (by rw[hc]; exact hn.right) p hp'
   ·cases hbx
  ·cases hbx
 | (k,.old e t0 xs) :: l,s,cs,y,n,hbx,ho,hn,p,hp=>jv l s cs y n hbx ho hn p (by unfold ce at hp; exact hp)
 | (k,.gone e t0 xs) :: l,s,cs,y,n,hbx,ho,hn,p,hp=>jv l s cs y n hbx ho hn p (by unfold ce at hp; exact hp)
 | (k,.keepF g0 caps0) :: l,s,cs,y,n,hbx,ho,hn,p,hp=>jv l s cs y n hbx ho hn p (by unfold ce at hp; exact hp)
 | (k,.rowP g0 caps0) :: l,s,cs,y,n,hbx,ho,hn,p,hp=>jv l s cs y n hbx ho hn p (by unfold ce at hp; exact hp)
 | (k,.row e t0 xs fr0) :: l,s,cs,y,n,hbx,ho,hn,p,hp=>by
  cases rb with
  | false =>
   have hbx':gU false res l=some cs:=hbx
   exact jv l s cs y n hbx' ho hn p (by unfold ce at hp; exact hp)
  | true =>
   unfold gU at hbx
   simp only[M4,O2] at hbx
   obtain⟨cs',h1,rfl⟩:=hbx
   cases s with
   | val _=>cases ho
   | row _ _ _=>cases ho
   | strct _=>cases ho
   | ptr _=>cases ho
   | unit=>cases ho
   | pair a b =>
    obtain⟨v,l',he,h2,h3⟩:=fP ho
    cases he
    have hro:ao.go (.pair a b) (.row k :: cs')=ao a (.row k)++ao.go b cs':=rfl
    rw[hro] at hn
    have hc:=(dU.give_count a).1 (.row k) y.1 n h2
    have hmk:(ap.go (.pair a b) y n).1=(ap a y.1 n).1 :: (ap.go b y.2 (ap a y.1 n).2.2).1:=rfl
    rw[hmk] at hp
    unfold ce at hp
    simp only at hp
    split at hp
    ·rename_i m vs hv
     obtain⟨hv1,rfl⟩:=Y8 hv
     rcases O9.1 hp with rfl | hp
     ·cases a with
      | val t=>cases hv1
      | row e' t' fr' =>
       have hv2:SV.row n = .row m:=hv1
       cases hv2
       have:=hn.left 0 k rfl
       simpa using this
      | unit=>cases h2
      | pair _ _=>cases h2
      | strct _=>cases h2
      | ptr _=>cases h2
     ·exact jv l b cs' y.2 _ h1 h3 (by rw[hc]; exact hn.right) p hp
    ·simp at hp
theorem BK : ∀ {u:Up} {get:Nat→Option aE} {m:Nat} {y:aE},aP get u m=some y→(m,some y)∈u∨get m=some y
 | [],get,m,y,h => .inr h
 | (k,x) :: u,get,m,y,h=>by
  rcases BK (u:=u) (show aP (fun s=>if s=k then x else get s) u m=some y from h) with h2 | h2
  ·exact .inl (N5 _ h2)
  ·by_cases hk:m=k
   ·rw[M5 hk] at h2
    subst hk
    rw[h2]
    exact .inl (by simp)
   ·rw[M2 hk] at h2
    exact .inr h2
end
section
variable {P:Program} {E:bK} {w0:World} {X:Nat→Prop} {Pr0:Nat→Nat→Prop} {γ:Nat→Option G} {Pr:Nat→Nat→Prop} {a:Act} {w:World} {σ:St}
abbrev kJ (a:Act):ResultVar→Sem Value:=fun
 | .tmp t=>pure (a.tmps.getD t undef)
 | .cell c t=>do loadVar t (←asAddr (a.tmps.getD c undef))
theorem Ha (hE:dq P E) (hI:aO w0 X Pr0 σ.slots (am σ.res) γ Pr a w) (rv:ResultVar) (hne:cU E σ rv ≠ .undef) : ∃ val,(kJ a rv).run P w = .ok val w∧RV (Ln Pr w) γ (cU E σ rv) val:=by
 cases rv with
 | tmp t=>exact⟨_,rfl,A4 hI.slots (.tmp t)⟩
 | cell c T =>
  have hev:=A4 hI.slots (.tmp c)
  simp only[ev,Act.eval] at hev
  simp only[cU] at hne ⊢
  split at hne
  ·rename_i r s path t hsl hT
   split at hne
   ·rename_i bt c' hg
    split at hne
    ·rename_i v hv
     split at hne
     ·rename_i hst
      subst hst
      rw[hsl] at hev
      obtain⟨cs,h1,h2⟩:=vo (P:=P) hI hev hg (bk hE hT).2 hv
      refine⟨mk s cs,?_,?_⟩
      ·generalize hx:a.tmps.getD c undef=x at *
       cases hev with
       | ptr hb hp =>
        simp only[Instr.loadAt,Instr.sureAddr,N9,O3,N2] at h1
        simp only[kJ,hx,asAddr,N9,O3,N2]
        exact h1
      ·simp only[hsl,hT,hg,hv,M5]
       exact Fl h2
     ·exact P1 rfl hne
    ·exact P1 rfl hne
   ·exact P1 rfl hne
  ·exact P1 rfl hne
theorem wO (hE:dq P E) (hI:aO w0 X Pr0 σ.slots (am σ.res) γ Pr a w) : ∀(l:List ResultVar),(∀ v∈l.map (cU E σ),v ≠ .undef) → ∃ vals,(l.mapM (kJ a)).run P w = .ok vals w∧bE (Ln Pr w) γ (l.map (cU E σ)) vals
 | [],_=>⟨[],by simp,.nil⟩
 | rv :: l,h=>by
  obtain⟨val,h1,h2⟩:=Ha hE hI rv (h _ (by simp))
  obtain⟨vals,h3,h4⟩:=wO hE hI l (fun v hv=>h v (by rw[S2]; exact N5 _ hv))
  refine⟨val :: vals,?_,.cons h2 h4⟩
  simp only[List.mapM_cons,N9,h1,N2,h3,O3]
theorem DH {fn:Func} {vals:List Value} (h:(fn.results.toList.mapM (kJ a)).run P w = .ok vals w):(results fn a.tmps).run P w = .ok (sK vals) w:=by
 have hm:(fn.results.mapM (kJ a)).run P w = .ok vals.toArray w:=by
  rw[Array.mapM_eq_mapM_toList,Sem.run_map,h]
  rfl
 show(do let vs ←fn.results.mapM (kJ a); pure (if h:vs.size=1 then vs[0] else .tuple vs):Sem Value).run P w=_
 simp only[N9,hm,N2,O3]
 congr 1
 match vals with
 | []=>rfl
 | [v]=>rfl
 | v :: v' :: l =>
  rw[dif_neg (by simp)]
  rfl
theorem BL {Gp:WP} (hE:dq P E) (hP:pO Gp P E) {k:Nat} (hR : ∀ w0 X,Gp w0 X→A5 P E w0 X k):fV Gp P E (c7 E (run E k)):=by
 intro I args tab z key hg hz
 unfold c7 at hz
 split at hz
 ·rename_i f hf
  exact hP I f key hg hf args tab z hz
 intro hcanon w γ Pr us hGp hI hlim N hN vs u n bs u' n' ub hmk1 hmk2 hub
 obtain⟨hfn,hbody,_⟩:=hE.fns key I hg
 obtain⟨c,hc⟩ : ∃ c,I.fn.body=some c:=by
  cases hb:I.fn.body with
  | none=>rw[hb] at hbody; cases hbody
  | some c=>exact⟨c,rfl⟩
 have hbo:aH I.fn=c:=by unfold aH; rw[hc]
 refine calls_of_wp hfn hc ?_
 have hlen:args.length=us.length:=Ey hI.slots
 have hrep : ∀ m,bE (Ln Pr w) γ (P3 m .undef) (P3 m undef):=by
  intro m
  induction m with
  | zero=>exact .nil
  | succ m ih=>exact .cons .undef ih
 have hI0:aO w (iu tab γ) Pr (start I args tab).slots (am (start I args tab).res) γ Pr {tmps:=us.toArray++Array.replicate (I.fn.ntmps - us.toArray.size) undef,defers:=[]} w:=by
  refine⟨?_,rfl,hI.gs,hI.wfs,hI.res,hI.apart,hI.loose,hI.where_,hI.frame,hI.size,hI.os,hI.tape,hI.output,hI.prIn,hI.prOld,hI.pr0⟩
  show bE (Ln Pr w) γ (args++P3 (I.fn.ntmps - args.length) .undef) (us.toArray++Array.replicate (I.fn.ntmps - us.toArray.size) undef).toList
  have:(us.toArray++Array.replicate (I.fn.ntmps - us.toArray.size) undef).toList=us++P3 (I.fn.ntmps - us.length) undef:=by simp
  rw[this,hlen]
  exact qN hI.slots (hrep _)
 have hz':run E k I (fN E I tab) c [] (start I args tab)=some z:=by rw[←hbo]; exact hz
 refine hR w (iu tab γ) hGp I (fN E I tab) c [] (start I args tab) z hz' Pr γ γ Pr _ w (bodyPost P I.fn _) ⟨hI0,fun _ _=>rfl,hlim,N4 _⟩ ?_ k (N4 _)
 intro σ' γ' Pr' a' w' hfin hA hn0
 have key:a'.defers=[] ∧ ∃ v,(results I.fn a'.tmps).run P w' = .ok v w' ∧ ∃ vals γr Pr2,Ending.returned v = .returned (sK vals)∧qM w (iu tab γ) γ Pr N n' vs ub (u++u') vals γr Pr2 w' ∧ ∀ p∈ce I.rb tab bs,γr p.1=γ p.2:=by
  refine⟨hA.inv.defers,?_⟩
  unfold fN at hfin
  simp only[M4] at hfin
  obtain⟨x,hx,cs,hcs,y,hy,hfin⟩:=hfin
  split at hfin
  ·rename_i honce hmeet
   cases hfin
   obtain⟨vals,hrun,hvals⟩:=wO hE hA.inv I.fn.results.toList (EM hx)
   refine⟨sK vals,DH hrun,vals,?_⟩
   obtain⟨Pr2,hI2,hP2,hR2,hsame,_,hkeep⟩:=fm (res:=σ'.res) hA.inv (fun r x h=>h) (cZ.go I.sh (I.fn.results.toList.map (cU E σ'))++cZ.go I.bx cs)
   have hT2:jG γ' σ'.res:=hA.inv.tys (fun r x h=>h)
   have hL2 : ∀ b o v,Ln Pr' w' b o v→Ln Pr2 w' b o v:=fun b o v h=>⟨hP2 _ _ h.1,h.2⟩
   have hnd:=vu honce
   have hn0':σ'.n0=tab.length:=hn0
   have hnumb:jQ γ' (fun m=>if N≤m then((bg I.sh (I.fn.results.toList.map (cU E σ'))++bg I.bx cs)[m - N]?).bind γ' else none) (bg I.sh (I.fn.results.toList.map (cU E σ'))++bg I.bx cs) N:=by
    intro i r hr
    show(if N≤N+i then _ else none)=_
    rw[M5 (by omega),Y5,hr]
    rfl
   have hcnt1:n=N+(bg I.sh (I.fn.results.toList.map (cU E σ'))).length:=by
    have:=wN I.sh _ x N hx
    have h2:(ap.go I.sh x N).2.2=n:=by
     have h3:ap.go I.sh x N=(vs,u,n):=hmk1
     rw[h3]
    rw[←h2]
    exact this
   have hcnt2:n'=N+(bg I.sh (I.fn.results.toList.map (cU E σ'))++bg I.bx cs).length:=by
    have:=(dU.give_count I.bx).2 _ y n hy
    have h2:(ap.go I.bx y n).2.2=n':=by
     have h3:ap.go I.bx y n=(bs,u',n'):=hmk2
     rw[h3]
    rw[←h2,this,hcnt1,M6,T0]
    rfl
   have hvs:vs=(ap.go I.sh x N).1:=by
    have h3:ap.go I.sh x N=(vs,u,n):=hmk1
    rw[h3]
   have hbs:bs=(ap.go I.bx y n).1:=by
    have h3:ap.go I.bx y n=(bs,u',n'):=hmk2
    rw[h3]
   have hro : ∀ r∈bg I.sh (I.fn.results.toList.map (cU E σ'))++bg I.bx cs,∃ y1,ll tab.length σ'.res r y1:=by
    intro r hr
    rcases R4.1 hr with hr | hr
    ·exact BJ I.sh _ x hx r hr
    ·obtain⟨e,t,xs,b,hg⟩:=(na I.bx).2 _ y hy r hr
     exact⟨_,.inl ⟨e,t,xs,b,rfl,hg⟩⟩
   have hget2 : ∀ r∈bg I.sh (I.fn.results.toList.map (cU E σ'))++bg I.bx cs,aP (am σ'.res) (bv σ'.res (cZ.go I.sh (I.fn.results.toList.map (cU E σ'))++cZ.go I.bx cs)) r=am σ'.res r:=fun r hr=>hsame r (fun h=>js hmeet r hr h)
   have hrows : ∀ m w1,ik (u++u') m=some w1 → ∃(i r:Nat),m=N+i∧(bg I.sh (I.fn.results.toList.map (cU E σ'))++bg I.bx cs)[i]? = some r∧ll tab.length σ'.res r w1:=by
    intro m w1 h
    rcases BK h with h | h
    ·have hu1:u=(ap.go I.sh x N).2.1:=by
      have h3:ap.go I.sh x N=(vs,u,n):=hmk1
      rw[h3]
     have hu2:u'=(ap.go I.bx y n).2.1:=by
      have h3:ap.go I.bx y n=(bs,u',n'):=hmk2
      rw[h3]
     rcases R4.1 h with h | h
     ·rw[hu1] at h
      obtain⟨i,r,y1,h1,h2,h3⟩:=zv I.sh _ x N hx _ h
      cases h1
      exact⟨i,r,rfl,(Q2 (N7.1 h2).1).trans h2,h3⟩
     ·rw[hu2] at h
      obtain⟨i,r,e,t,xs,b,h1,h2,h3⟩:=(lz I.bx).2 _ y n hy _ h
      cases h1
      refine⟨(bg I.sh (I.fn.results.toList.map (cU E σ'))).length+i,r,by rw[hcnt1,T0],?_,.inl ⟨e,t,xs,b,rfl,h3⟩⟩
      rw[S5 (by omega),Y5]
      exact h2
    ·cases h
   have hinj : ∀(i i' r:Nat),(bg I.sh (I.fn.results.toList.map (cU E σ'))++bg I.bx cs)[i]? = some r→(bg I.sh (I.fn.results.toList.map (cU E σ'))++bg I.bx cs)[i']? = some r→i=i':=by
    intro i i' r h h'
    exact(List.getElem?_inj (N7.1 h).1 hnd).1 (h.trans h'.symm)
   have hblk : ∀(i r:Nat) (y:aE),(bg I.sh (I.fn.results.toList.map (cU E σ'))++bg I.bx cs)[i]? = some r→aQ (fun m=>if N≤m then((bg I.sh (I.fn.results.toList.map (cU E σ'))++bg I.bx cs)[m - N]?).bind γ' else none) (N+i) y=aQ γ' r y:=by
    intro i r y h
    have:=hnumb i r h
    cases y <;> simp only[aQ,this]
   have hbox:=lA (γ:=γ') (γr:=fun m=>if N≤m then((bg I.sh (I.fn.results.toList.map (cU E σ'))++bg I.bx cs)[m - N]?).bind γ' else none) hR2 hT2 tab I.bx cs y n ub hcs hy (by rw[←hbs]; exact hub) (fun r hr=>T9 _ hr) (by rw[hcnt1]; exact hnumb.right)
   have hboxγ : ∀(j:Nat) (t:Ty) (c':SV),ub[j]? = some (some (.box t c')) → ∃ c1,am σ'.res j=some (.box t c1)∧γ' j=γ j∧aP (am σ'.res) (bv σ'.res (cZ.go I.sh (I.fn.results.toList.map (cU E σ'))++cZ.go I.bx cs)) j=some (.box t c1) ∧ ∀ cells,RT (Ln Pr2 w') γ' t c1 cells→RT (Ln Pr2 w') (fun m=>if N≤m then((bg I.sh (I.fn.results.toList.map (cU E σ'))++bg I.bx cs)[m - N]?).bind γ' else none) t c' cells:=by
    intro j t c' hj
    obtain⟨key,c1,c0,h1,h2,h3⟩:=hbox j t c' hj
    have hkj:key=j:=hcanon j _ h1
    subst hkj
    have hjl:key < tab.length:=(N7.1 h1).1
    refine⟨c1,h2,hA.low key (by rw[hn0']; exact hjl),?_,h3⟩
    rw[hkeep key (fun e t xs b h=>by rw[h2] at h; cases h)]
    exact h2
   refine⟨fun m=>if N≤m then((bg I.sh (I.fn.results.toList.map (cU E σ'))++bg I.bx cs)[m - N]?).bind γ' else none,Pr2,rfl,?_,?_⟩
   rotate_left
   ·intro p hp
    rw[hbs] at hp
    have h1:=jv (γ:=γ') (γr:=fun m=>if N≤m then((bg I.sh (I.fn.results.toList.map (cU E σ'))++bg I.bx cs)[m - N]?).bind γ' else none) tab I.bx cs y n hcs hy (by rw[hcnt1]; exact hnumb.right) p hp
    rw[←hbs] at hp
    obtain⟨j,q,h2,h3,_⟩:=eZ hub p hp
    have h4:p.2 < tab.length:=by
     rw[←h3,hcanon j q h2]
     exact(N7.1 h2).1
    rw[←hA.low p.2 (by rw[hn0']; exact h4)]
    exact h1
   constructor
   case vals =>
    rw[hvs]
    exact BI hR2 hT2 I.sh _ vals x N (d7 hL2 (fun _ _ h=>h) hvals) hx (fun r hr=>U9 _ hr) hnumb.left
   case lim =>
    intro r g hr
    split at hr
    ·rename_i hNr
     rw[M4] at hr
     obtain⟨s,hs,hγ⟩:=hr
     have hsl:=(N7.1 hs).1
     refine⟨⟨hNr,by rw[hcnt2]; omega⟩,?_⟩
     obtain⟨_,⟨e,t,xs,b,rfl,hrow⟩ | ⟨t,c,x1,rfl,_,hrow,_⟩⟩:=hro s (P5 hs)
     ·obtain⟨v,css,hv,_⟩:=hA.inv.res s _ hrow
      rw[hγ] at hv
      cases hv
      obtain⟨A,m,c,rfl⟩:=hA.inv.gs _ _ _ _ hγ
      exact .inl ⟨e,t,A,m,c,rfl⟩
     ·obtain⟨b,arr,T,hv,_⟩:=hA.inv.res s _ hrow
      rw[hγ] at hv
      cases hv
      exact .inr ⟨b,t,rfl,hA.inv.wfs _ _ _ hγ⟩
    ·cases hr
   case box =>
    intro j t c' hj
    obtain⟨c1,h1,h2,h3,h4⟩:=hboxγ j t c' hj
    obtain⟨b,arr,T,h5,h6,h7⟩:=hI2.res j _ h3
    exact⟨b,arr,T,by rw[←h2]; exact h5,h6,h7.map h4⟩
   case row =>
    intro m w1 h
    obtain⟨i,r,rfl,h1,h2⟩:=hrows m w1 h
    have hil:=(N7.1 h1).1
    refine⟨by omega,by rw[hcnt2]; omega,?_⟩
    rcases h2 with⟨e,t,xs,b,rfl,h2⟩ | ⟨t,c,x1,rfl,_,h2,h7⟩
    ·obtain⟨v,css,h3,h4,h5,h6⟩:=hI2.res r _ ((hget2 r (P5 h1)).trans h2)
     exact⟨v,css,(hnumb i r h1).trans h3,h4,h5,h6⟩
    ·obtain⟨b,arr,T,h3,h4,h5⟩:=hI2.res r _ ((hget2 r (P5 h1)).trans h2)
     refine⟨b,arr,T,(hnumb i r h1).trans h3,h4,h5.map fun cs h5 => ?_⟩
     have hk:=mZ (L:=Ln Pr2 w') (γ:=γ') (res:=[]) (P:=fun _=>True) (fun r e t xs _ hh=>by rcases hh with⟨_,hh⟩ | hh <;> cases hh) 9 9 (N4 _) (fun _ _=>trivial) h5 h7
     exact ou (.val hk) fun u hu=>by
      subst hu
      exact pL (hI2.wfs _ _ _ h3)
   case apart =>
    intro m m' y1 y2 b h h' hne hb
    obtain⟨i,r,rfl,h1,hh2⟩:=hrows m y1 h
    obtain⟨i',r',rfl,h1',hh2'⟩:=hrows m' y2 h'
    obtain⟨y1',h2,hbb,_⟩:=hh2.old
    obtain⟨y2',h2',hbb',_⟩:=hh2'.old
    rw[hblk i r _ h1,←hbb] at hb
    rw[hblk i' r' _ h1',←hbb']
    refine hI2.apart r r' y1' y2' b ((hget2 r (P5 h1)).trans h2) ((hget2 r' (P5 h1')).trans h2') (fun e=>hne ?_) hb
    subst e
    rw[hinj i i' r h1 h1']
   case beside =>
    intro j t c' b hj hγj m y1 h hb
    obtain⟨c1,h1,h2,h3,h4⟩:=hboxγ j t c' hj
    obtain⟨i,r,rfl,h5,hh6⟩:=hrows m y1 h
    have hjl:j < tab.length:=by
     rw[←(fo hub).1]
     exact(N7.1 hj).1
    have hne:r≠j:=by
     rintro rfl
     rcases hh6 with⟨e,t',xs,b',rfl,h6⟩ | ⟨t',c2,x1,rfl,h6,_⟩
     ·rw[h6] at h1
      cases h1
     ·omega
    obtain⟨y1',h6,hbb,_⟩:=hh6.old
    rw[hblk i r _ h5,←hbb] at hb
    exact hI2.apart r j _ _ b ((hget2 r (P5 h5)).trans h6) h3 hne hb (by simp[aQ,h2,hγj])
   case boxLoose =>
    intro j t c' b hj hγj o ho
    obtain⟨c1,h1,h2,h3,h4⟩:=hboxγ j t c' hj
    exact hI2.loose j _ b h3 (by simp[aQ,h2,hγj]) o ho
   case rowLoose =>
    intro m y1 b h hb o ho
    obtain⟨i,r,rfl,h1,hh2⟩:=hrows m y1 h
    obtain⟨y1',h2,hbb,hml⟩:=hh2.old
    rw[hblk i r _ h1,←hbb] at hb
    exact hml o (hI2.loose r _ b ((hget2 r (P5 h1)).trans h2) hb o ho)
   case where_ =>
    intro m y1 b h hb
    obtain⟨i,r,rfl,h1,hh2⟩:=hrows m y1 h
    obtain⟨y1',h2,hbb,_⟩:=hh2.old
    rw[hblk i r _ h1,←hbb] at hb
    exact hI2.where_ r _ b ((hget2 r (P5 h1)).trans h2) hb
   case frame=>exact hI2.frame
   case size=>exact hI2.size
   case os=>exact hI2.os
   case tape=>exact hI2.tape
   case output=>exact hI2.output
   case prIn=>exact hI2.prIn
   case prOld=>exact hI2.prOld
   case lean=>exact hI2.pr0
  ·cases hfin
 exact⟨key,key⟩
theorem Hb {Gp:WP} (hst:wF Gp) (hm:P.follows .mixedOrders=true) (hE:dq P E) (hP:pO Gp P E) : ∀ k,fV Gp P E (c7 E (run E k)):=by
 intro k
 induction k using Nat.strongRecOn with
 | _ k ih=>exact BL hE hP fun w0 X hG=>KU hm hE k (fun j hj=>(ih j hj).weaken fun w X' hf=>hst w0 X w X' hG hf) k (N4 _)
end
end Go.Proofs.YtfffplonjaigkaaGreatDoor.Abs
namespace Go.Proofs.YtfffplonjaigkaaGreatDoor.Abs
open Go Go.RowKit
theorem mP {α:Type} : ∀ {l:List (Nat×α)} {k:Nat} {v:α},cd l k=some v→(k,v)∈l
 | [],_,_,h=>by cases h
 | (i,x) :: l,k,v,h=>by
  unfold cd at h
  split at h
  ·rename_i hb
   cases h
   rw[P2 hb]
   simp
  ·exact N5 _ (mP h)
def Fv:Value→Value→Bool
 | .int k n,.int k' m=>decide (k=k') && decide (n=m)
 | .bool a,.bool b=>a == b
 | .string s,.string t=>decide (s.data.toList=t.data.toList)
 | .slice none 0 0,.slice none 0 0=>true
 | .nilIface,.nilIface=>true
 | .nilFunc,.nilFunc=>true
 | .pointer none,.pointer none=>true
 | _,_=>false
theorem I5 {a b:Value} (h:Fv a b=true):a=b:=by
 unfold Fv at h
 split at h
 ·simp only[M7,M9] at h
  rw[h.1,h.2]
 ·rw[eq_of_beq h]
 ·have h':=R3 h
  rename_i s t
  cases s
  cases t
  exact N1 (fun d=>Value.string ⟨d⟩) (U3.1 h')
 ·rfl
 ·rfl
 ·rfl
 ·rfl
 ·cases h
def wP:List Value→List Value→Bool
 | [],[]=>true
 | a :: l,b :: m=>Fv a b && wP l m
 | _,_=>false
theorem zw : ∀ {l m:List Value},wP l m=true→l=m
 | [],[],_=>rfl
 | a :: l,b :: m,h=>by
  simp only[wP,M7] at h
  rw[I5 h.1,zw h.2]
 | [],_ :: _,h=>by cases h
 | _ :: _,[],h=>by cases h
def KX (T:TypeId):Ty→Bool
 | .agg (.pair (.bp T') _)=>Q7 T T'
 | _=>true
theorem Kd {T:TypeId} {t:Ty} (h:KX T t=true) : ∀ T' s,t = .agg (.pair (.bp T') s)→T=T':=by
 rintro T' s rfl
 exact P2 h
def ua (P:Program) (T:TypeId) (t:Ty):Bool:=match P.info? T,P.underlying T with
 | some i,some d=>Q7 i.size t.sz && (match i.zero with | some z=>wP z.cells.toList (zc t) | none=>false) && (IC d == jE t) && ch false t && KX T t
 | _,_=>false
theorem qP {P:Program} {T:TypeId} {t:Ty} (h:ua P T t=true):dt P T t:=by
 unfold ua at h
 split at h
 ·rename_i i d hi hd
  simp only[M7] at h
  obtain⟨⟨⟨⟨h1,h2⟩,h3⟩,h4⟩,h5⟩:=h
  split at h2
  ·rename_i z hz
   exact⟨⟨i,hi,P2 h1,z,hz,zw h2⟩,⟨d,hd,eq_of_beq h3⟩,h4,Kd h5⟩
  ·cases h2
 ·cases h
def uc (P:Program):List Field→Ty→Nat→Bool
 | [],.unit,_=>true
 | f :: fs,.pair a b,o=>Q7 f.offset o && !(f.name == "_") && Nat.blt 0 a.sz && ua P f.type a && uc P fs b (o+a.sz)
 | _,_,_=>false
theorem wQ {P:Program} : ∀ {fs:List Field} {t:Ty} {o:Nat},uc P fs t o=true→Ez P fs t o
 | [],.unit,_,_=>trivial
 | f :: fs,.pair a b,o,h=>by
  simp only[uc,M7,V6] at h
  obtain⟨⟨⟨⟨h1,h2⟩,h3⟩,h4⟩,h5⟩:=h
  exact⟨P2 h1,fun e=>(by rw[e] at h2; simp at h2),(by simpa[Nat.blt_eq] using h3),qP h4,wQ h5⟩
 | [],.int _,_,h=>by cases h
 | [],.bool,_,h=>by cases h
 | [],.err,_,h=>by cases h
 | [],.fn,_,h=>by cases h
 | [],.pt,_,h=>by cases h
 | [],.bp _,_,h=>by cases h
 | [],.str,_,h=>by cases h
 | [],.pair _ _,_,h=>by cases h
 | [],.agg _,_,h=>by cases h
 | [],.slice _ _,_,h=>by cases h
 | _ :: _,.int _,_,h=>by cases h
 | _ :: _,.bool,_,h=>by cases h
 | _ :: _,.err,_,h=>by cases h
 | _ :: _,.fn,_,h=>by cases h
 | _ :: _,.pt,_,h=>by cases h
 | _ :: _,.bp _,_,h=>by cases h
 | _ :: _,.str,_,h=>by cases h
 | _ :: _,.unit,_,h=>by cases h
 | _ :: _,.agg _,_,h=>by cases h
 | _ :: _,.slice _ _,_,h=>by cases h
def BM (P:Program) (T:TypeId) (t:Ty):Bool:=match P.underlying T,t with
 | some (.int k),.int k'=>decide (k=k')
 | some .bool,.bool=>true
 | some .string,.str=>true
 | some (.slice e),.slice e' t=>Q7 e e' && ua P e t && Nat.blt 0 t.sz && (!decide (t = .int .u8) || (match P.underlying e with | some (.int .u8)=>true | _=>false))
 | some (.struct fs),.agg t=>uc P fs.toList t 0
 | some (.interface _),.err=>true
 | some _,.fn=>true
 | some _,.pt=>true
 | some _,.bp _=>true
 | _,_=>false
theorem Hc {P:Program} {T:TypeId} {t:Ty} (h:BM P T t=true):gV P T t:=by
 unfold BM at h
 split at h
 ·rename_i k k' hu
  rw[R3 h] at hu
  exact hu
 ·rename_i hu
  exact hu
 ·rename_i hu
  exact hu
 ·rename_i e e' t hu
  simp only[M7] at h
  obtain⟨⟨⟨h1,h2⟩,h3⟩,h4⟩:=h
  have:=P2 h1
  subst this
  refine⟨hu,qP h2,(by simpa[Nat.blt_eq] using h3),fun ht => ?_⟩
  simp only[ht,decide_true,O5,Bool.false_or] at h4
  split at h4
  ·assumption
  ·cases h4
 ·rename_i fs t hu
  exact⟨fs,hu,wQ h⟩
 ·rename_i ms hu
  exact⟨ms,hu⟩
 ·trivial
 ·trivial
 ·trivial
 ·cases h
def Fw (P:Program) (g:TypeId→Ty→Bool):List Field→Ty→Nat→Bool
 | [],.unit,_=>true
 | f :: fs,.pair a b,o=>Q7 f.offset o && !(f.name == "_") && ua P f.type a && g f.type a && Fw P g fs b (o+a.sz)
 | _,_,_=>false
def jd (P:Program):Nat→TypeId→Ty→Bool
 | 0,_,_=>false
 | _+1,T,.int _=>match P.underlying T with | some (.int _)=>true | _=>false
 | _+1,T,.bool=>match P.underlying T with | some .bool=>true | _=>false
 | _+1,T,.str=>match P.underlying T with | some .string=>true | _=>false
 | d+1,T,.agg t=>match P.underlying T with
  | some (.struct fs) => !(P.stoodInHeld T) && Fw P (jd P d) fs.toList t 0
  | _=>false
 | _,_,_=>false
theorem EN {P:Program} {g:TypeId→Ty→Bool} {L:Lk} {d:Nat} {w:World} (hg : ∀ T t,g T t=true → ∀(x y:t.den) (cs ds:List Value),RK L t x cs→RK L t y ds→(Op.equalIn d T (mk t cs) (mk t ds)).run P w = .ok (bZ t x y) w) :
  ∀ {fs:List Field} {t:Ty} {o:Nat},Fw P g fs t o=true → ∀ {x y:t.den} {cs ds xs ys:List Value},RK L t x cs→RK L t y ds→cS cs xs o→cS ds ys o→(Op.eqFields d xs.toArray ys.toArray fs).run P w = .ok (bZ t x y) w
 | [],.unit,_,_,_,_,_,_,_,_,_,_,_,_=>rfl
 | f :: fs,.pair a b,o,h,x,y,cs,ds,xs,ys,hx,hy,hsx,hsy=>by
  simp only[Fw,M7,V6] at h
  obtain⟨⟨⟨⟨h1,h2⟩,h3⟩,h4⟩,h5⟩:=h
  have h1:=P2 h1
  have hn:f.name ≠ "_" := fun e=>by rw[e] at h2; simp at h2
  have hi:=qP h3
  obtain⟨c1,d1,rfl,hx1,hx2⟩:=hx
  obtain⟨c2,d2,rfl,hy1,hy2⟩:=hy
  have p1:=ye hi (cR hx1) ((cS.left c1 d1).trans hsx) w
  have p2:=ye hi (cR hy1) ((cS.left c2 d2).trans hsy) w
  rw[U6] at p1 p2
  have s1:=(cS.right c1 d1).trans hsx
  have s2:=(cS.right c2 d2).trans hsy
  rw[cR hx1] at s1
  rw[cR hy1] at s2
  have ih:=EN hg h5 hx2 hy2 s1 s2
  have h6:=hg f.type a h4 x.1 y.1 c1 c2 hx1 hy1
  simp only[Op.eqFields,M5 hn,h1,N9,p1,p2,N2,h6]
  show _=Result.ok (bZ a x.1 y.1 && bZ b x.2 y.2) w
  cases bZ a x.1 y.1 with
  | false=>simp
  | true =>
   simp only[O5,Bool.false_eq_true,if_false,Bool.true_and]
   exact ih
 | [],.int _,_,h,_,_,_,_,_,_,_,_,_,_=>by cases h
 | [],.bool,_,h,_,_,_,_,_,_,_,_,_,_=>by cases h
 | [],.err,_,h,_,_,_,_,_,_,_,_,_,_=>by cases h
 | [],.fn,_,h,_,_,_,_,_,_,_,_,_,_=>by cases h
 | [],.pt,_,h,_,_,_,_,_,_,_,_,_,_=>by cases h
 | [],.bp _,_,h,_,_,_,_,_,_,_,_,_,_=>by cases h
 | [],.str,_,h,_,_,_,_,_,_,_,_,_,_=>by cases h
 | [],.pair _ _,_,h,_,_,_,_,_,_,_,_,_,_=>by cases h
 | [],.agg _,_,h,_,_,_,_,_,_,_,_,_,_=>by cases h
 | [],.slice _ _,_,h,_,_,_,_,_,_,_,_,_,_=>by cases h
 | _ :: _,.int _,_,h,_,_,_,_,_,_,_,_,_,_=>by cases h
 | _ :: _,.bool,_,h,_,_,_,_,_,_,_,_,_,_=>by cases h
 | _ :: _,.err,_,h,_,_,_,_,_,_,_,_,_,_=>by cases h
 | _ :: _,.fn,_,h,_,_,_,_,_,_,_,_,_,_=>by cases h
 | _ :: _,.pt,_,h,_,_,_,_,_,_,_,_,_,_=>by cases h
 | _ :: _,.bp _,_,h,_,_,_,_,_,_,_,_,_,_=>by cases h
 | _ :: _,.str,_,h,_,_,_,_,_,_,_,_,_,_=>by cases h
 | _ :: _,.unit,_,h,_,_,_,_,_,_,_,_,_,_=>by cases h
 | _ :: _,.agg _,_,h,_,_,_,_,_,_,_,_,_,_=>by cases h
 | _ :: _,.slice _ _,_,h,_,_,_,_,_,_,_,_,_,_=>by cases h
theorem EO {P:Program} {L:Lk} {w:World} : ∀(n:Nat) (T:TypeId) (t:Ty),jd P n T t=true → ∀(d:Nat) (x y:t.den) (cs ds:List Value),RK L t x cs→RK L t y ds→(Op.equalIn (d+n) T (mk t cs) (mk t ds)).run P w = .ok (bZ t x y) w
 | 0,_,_,h=>by simp[jd] at h
 | n+1,T,.int k,h=>fun d x y cs ds hx hy=>by
  rw[show cs=_ from hx,show ds=_ from hy]
  unfold jd at h
  split at h
  ·rename_i k' hu
   exact run_equalIn_int w (d+n) T k k' x y hu
  ·cases h
 | n+1,T,.bool,h=>fun d x y cs ds hx hy=>by
  rw[show cs=_ from hx,show ds=_ from hy]
  unfold jd at h
  split at h
  ·rename_i hu
   exact run_equalIn_bool' w (d+n) T x y hu
  ·cases h
 | n+1,T,.str,h=>fun d x y cs ds hx hy=>by
  rw[show cs=_ from hx,show ds=_ from hy]
  unfold jd at h
  split at h
  ·rename_i hu
   refine(run_equalIn_string w (d+n) T x y hu).trans ?_
   rw[←beq_toListBytes]
   rfl
  ·cases h
 | n+1,T,.agg t,h=>fun d x y cs ds hx hy=>by
  unfold jd at h
  split at h
  ·rename_i fs hu
   simp only[M7,V6] at h
   have hf:P.fieldsOf T=fs:=by simp[Program.fieldsOf,hu]
   have hu':P.underlying T=some (.struct (P.fieldsOf T)):=by rw[hf]; exact hu
   refine(run_equalIn_agg w (d+n) T cs.toArray ds.toArray hu' h.1).trans ?_
   rw[hf]
   exact EN (fun T t hT x y cs ds hx hy=>EO n T t hT d x y cs ds hx hy) h.2 (t:=t) hx hy (cS.refl cs) (cS.refl ds)
  ·cases h
 | n+1,T,.unit,h=>by simp[jd] at h
 | n+1,T,.err,h=>by simp[jd] at h
 | n+1,T,.fn,h=>by simp[jd] at h
 | n+1,T,.pt,h=>by simp[jd] at h
 | n+1,T,.bp _,h=>by simp[jd] at h
 | n+1,T,.pair _ _,h=>by simp[jd] at h
 | n+1,T,.slice _ _,h=>by simp[jd] at h
def I6 (P:Program) (E:bK):Bool:=E.eqs.all fun p=>jE p.2 && !(P.eqGuardType P.depth p.1) && jd P 8 p.1 p.2
theorem Ke {P:Program} {E:bK} (h:I6 P E=true) : ∀ T t,cd E.eqs T=some t→KM P T t:=by
 intro T t hT
 unfold I6 at h
 rw[T1] at h
 have:=h (T,t) (mP hT)
 simp only[M7,V6] at this
 refine⟨?_,this.1.2,fun L x y cs ds w hx hy=>EO 8 T t this.2 9992 x y cs ds hx hy⟩
 cases t <;> first | exact⟨_,rfl⟩ | cases this.1.1
def Hd (P:Program) (E:bK):Bool:=I6 P E && (E.ty.all fun p=>BM P p.1 p.2 && ua P p.1 p.2) && E.by_.all fun p=>Nat.blt 0 p.2 && (match P.info? p.1 with | some i=>Q7 i.bytes p.2 | none=>true)
theorem I7 {P:Program} {E:bK} (h:Hd P E=true) (hf : ∀ p∈E.fns,P.funcs[p.2.g]? = some p.2.fn∧p.2.fn.body.isSome=true∧(p.2.fn.name == "runtime.NumGoroutine")=false):dq P E:=by
 unfold Hd at h
 simp only[M7,T1] at h
 obtain⟨⟨hq,h1⟩,h2⟩:=h
 have h:=And.intro h1 h2
 refine⟨fun T t hT => ?_,fun e nb i hb hi => ?_,fun g I hg=>hf (g,I) (mP hg),Ke hq⟩
 ·have:=h.1 (T,t) (mP hT)
  exact⟨Hc this.1,qP this.2⟩
 ·have:=h.2 (e,nb) (mP hb)
  simp only[hi] at this
  exact⟨P2 this.2,by simpa[Nat.blt_eq] using this.1⟩
end Go.Proofs.YtfffplonjaigkaaGreatDoor.Abs
namespace Go.Proofs.YtfffplonjaigkaaGreatDoor.Abs
open Go Go.RowKit
section
variable {E:bK} {call call':(I:ak)→List SV→ar→Option (I.sh.den×I.bx.den)}
theorem nc (hc : ∀ I args tab z,call I args tab=some z→call' I args tab=some z) {g key:Nat} {args:List SV} {res:ar} {r0:Nat} {p:SV×Up} (h:dS E call g key args res r0 bJ=some p):dS E call' g key args res r0 bJ=some p:=by
 unfold dS at h ⊢
 cases hI:cd E.fns key with
 | none=>rw[hI] at h; cases h
 | some I =>
  simp only[hI] at h ⊢
  cases hg:Q7 I.g g with
  | false=>rw[hg] at h; cases h
  | true =>
   simp only[hg] at h ⊢
   cases hv:mV res (I.fn.params.toList.map fun T=>cd E.ty T) I.own args with
   | none=>rw[hv] at h; cases h
   | some q =>
    obtain⟨args',fr⟩:=q
    simp only[hv] at h ⊢
    split at h
    ·rename_i h1 h2 h3
     rw[M4] at h
     obtain⟨z,hz,h⟩:=h
     rw[M4]
     exact⟨z,hc _ _ _ _ hz,h⟩
    ·cases h
theorem DI (hc : ∀ I args tab z,call I args tab=some z→call' I args tab=some z) {g:Nat} {args:List SV} {res:ar} {r0:Nat} {p:SV×Up} (h:eY E call g args res r0 bJ=some p):eY E call' g args res r0 bJ=some p:=by
 unfold eY at h ⊢
 split at h
 ·exact nc hc h
 ·rename_i s hs
  rw[M4] at h ⊢
  obtain⟨b,hb,h⟩:=h
  refine⟨b,hb,?_⟩
  split at h
  ·rename_i hb'
   rw[M5 hb']
   exact nc hc h
  ·rename_i hb'
   rw[M2 hb']
   exact nc hc h
theorem He (hc : ∀ I args tab z,call I args tab=some z→call' I args tab=some z) {o:Oper} {vs:List SV} {res:ar} {r0:Nat} {p:SV×Up} (h:bL E call o vs res r0 bJ=some p):bL E call' o vs res r0 bJ=some p:=by
 obtain⟨dst,op,ty,pos,after,guard⟩:=o
 cases op
 case call c =>
  obtain⟨callee,args,argTypes⟩:=c
  cases callee with
  | value f =>
   rcases vs with _ | ⟨v1,vs⟩
   ·cases h
   ·cases v1 with
    | fn g caps =>
     rcases vs with _ | ⟨v2,_ | ⟨v3,vs⟩⟩ <;> exact DI hc h
    | _=>rcases vs with _ | ⟨v2,_ | ⟨v3,vs⟩⟩ <;> cases h
  | _=>rcases vs with _ | ⟨v1,_ | ⟨v2,_ | ⟨v3,vs⟩⟩⟩ <;> exact h
 case makeFunc fn first captured=>cases fn <;> rcases vs with _ | ⟨v1,_ | ⟨v2,_ | ⟨v3,vs⟩⟩⟩ <;> exact h
 all_goals rcases vs with _ | ⟨v1,_ | ⟨v2,_ | ⟨v3,_ | ⟨v4,vs⟩⟩⟩⟩ <;> exact h
theorem Fx (hc : ∀ I args tab z,call I args tab=some z→call' I args tab=some z) {R R':Type} {K:SV→Up→Option R} {K':SV→Up→Option R'} {z:R} {z':R'} (hK : ∀ v u,K v u=some z→K' v u=some z') {o:Oper} {vs:List SV} {res:ar} {r0:Nat} (h:bL E call o vs res r0 K=some z):bL E call' o vs res r0 K'=some z':=by
 obtain⟨v,u,h1,h2⟩:=sC h
 rw[Bk,He hc h1]
 exact hK v u h2
theorem o5 (hc : ∀ I args tab z,call I args tab=some z→call' I args tab=some z) {R:Type} {K K':St→Option R} {z:R} (hK : ∀ σ,K σ=some z→K' σ=some z) {all:Array Oper} {draw:Bool} {base:Nat} :
  ∀ {l:List (Nat×Oper)} {g:List sB} {σ:St},bO E call all draw base l g σ K=some z→bO E call' all draw base l g σ K'=some z
 | [],g,σ,h=>by
  unfold bO at h ⊢
  cases draw with
  | false=>exact hK σ h
  | true =>
   simp only at h ⊢
   split at h
   ·rename_i h1 h2
    exact hK σ h
   ·cases h
 | (i,o) :: l,g,σ,h=>by
  have act : ∀(σ:St) (b:Bool),(match b with
   | true=>bL E call o ((ct o.op).map (ev σ.slots)) (dZ σ.res (gR o σ.res ((ct o.op).map (ev σ.slots)))) (base+64*i) fun v u=>match mX (base+64*i) (gR o σ.res ((ct o.op).map (ev σ.slots))) u with
    | true=>bO E call all draw base l ({i,see:=gR o σ.res ((ct o.op).map (ev σ.slots)),turn:=u.map (·.1)} :: g) (i8 σ o.dst v u) K
    | false=>none
   | false=>bO E call all draw base l ({i,see:=[],turn:=[]} :: g) (i8 σ o.dst (.tup []) []) K)=some z →
   (match b with
   | true=>bL E call' o ((ct o.op).map (ev σ.slots)) (dZ σ.res (gR o σ.res ((ct o.op).map (ev σ.slots)))) (base+64*i) fun v u=>match mX (base+64*i) (gR o σ.res ((ct o.op).map (ev σ.slots))) u with
    | true=>bO E call' all draw base l ({i,see:=gR o σ.res ((ct o.op).map (ev σ.slots)),turn:=u.map (·.1)} :: g) (i8 σ o.dst v u) K'
    | false=>none
   | false=>bO E call' all draw base l ({i,see:=[],turn:=[]} :: g) (i8 σ o.dst (.tup []) []) K')=some z:=by
   intro σ b h
   cases b with
   | true =>
    refine Fx hc (fun v u hh => ?_) h
    split at hh
    ·exact o5 hc hK hh
    ·cases hh
   | false=>exact o5 hc hK h
  unfold bO at h ⊢
  dsimp only at h ⊢
  split at h
  ·exact act σ true h
  ·rename_i j want hg
   split at h
   ·rename_i d hd
    split at h
    ·split at h
     ·rename_i hx
      rw[M5 hx]
      exact act {σ with slots:=cg σ.slots d (.val .bool true)} (true == want) h
     ·rename_i hx
      rw[M2 hx]
      exact act {σ with slots:=cg σ.slots d (.val .bool false)} (false == want) h
    ·exact act σ false h
    ·cases h
   ·cases h
theorem vz (E:bK) : ∀ {k m:Nat},k≤m → ∀ {I:ak} {R:Type} {K K':St→Option R} {c:Code} {S:List Fr} {σ:St} {z:R},(∀ σ,K σ=some z→K' σ=some z)→run E k I K c S σ=some z→run E m I K' c S σ=some z
 | 0,_,_,_,_,_,_,_,_,_,_,_,h=>by cases h
 | k+1,0,hle,_,_,_,_,_,_,_,_,_,_=>P1 hle (by omega)
 | k+1,m+1,hle,I,R,K,K',c,S,σ,z,hK,h=>by
  have ih : ∀ {I:ak} {R:Type} {K K':St→Option R} {c:Code} {S:List Fr} {σ:St} {z:R},(∀ σ,K σ=some z→K' σ=some z)→run E k I K c S σ=some z→run E m I K' c S σ=some z:=fun hK h=>vz E (Nat.le_of_succ_le_succ hle) hK h
  have ihp : ∀ {S:List Fr} {σ:St},mY (run E k) I K S σ=some z→mY (run E m) I K' S σ=some z:=by
   intro S σ h
   cases S with
   | nil=>exact hK σ h
   | cons f S=>cases f <;> exact ih hK h
  have ihc : ∀ I args tab z,c7 E (run E k) I args tab=some z→c7 E (run E m) I args tab=some z:=fun I args tab z h=>by
   unfold c7 at h ⊢
   split at h
   ·exact h
   ·exact ih (fun σ h=>h) h
  rw[jc] at h ⊢
  unfold lR at h ⊢
  split at h
  ·exact ihp h
  ·dsimp only at h ⊢
   exact o5 ihc (fun σ' h'=>ihp h') h
  ·exact ih hK h
  ·split at h
   ·split at h
    ·rename_i hx
     rw[M5 hx]
     exact ih hK h
    ·rename_i hx
     rw[M2 hx]
     exact ih hK h
   ·cases h
  ·exact ih hK h
  ·exact ih hK h
  ·split at h
   ·exact ih hK h
   ·cases h
  ·exact hK σ h
  ·cases h
end
theorem Hf {E:bK} {k m:Nat} (hm:k≤m) {I:ak} {args:List SV} {tab:ar} {z:I.sh.den×I.bx.den} (h:call E k I args tab=some z):call E m I args tab=some z:=by
 unfold call c7 at h ⊢
 split at h
 ·exact h
 ·exact vz E hm (fun _ h=>h) h
end Go.Proofs.YtfffplonjaigkaaGreatDoor.Abs
namespace Go.Proofs.YtfffplonjaigkaaGreatDoor.Abs
open Go Go.RowKit
def Ev {R:Type} (f:Nat→Option R) (z:R):Prop := ∃ k0,∀ k,k0≤k→f k=some z
section
variable {R R':Type} {f:Nat→Option R} {z:R}
theorem Ev.now:Ev (fun _=>some z) z:=⟨0,fun _ _=>rfl⟩
theorem Ev.later (h:Ev f z) (c:Nat):Ev (fun k=>f (k+c)) z:=by
 obtain⟨k0,h⟩:=h
 exact⟨k0,fun k hk=>h _ (by omega)⟩
theorem Ev.eqn {g:Nat→Option R} (c:Nat) (he : ∀ k,f (k+c)=g k) (h:Ev g z):Ev f z:=by
 obtain⟨k0,h⟩:=h
 refine⟨k0+c,fun k hk => ?_⟩
 have:=he (k - c)
 rw[show k - c+c=k by omega] at this
 rw[this]
 exact h _ (by omega)
theorem Ev.bind {g:R→Nat→Option R'} {y:R'} (h:Ev f z) (k:Ev (g z) y):Ev (fun n=>(f n).bind fun x=>g x n) y:=by
 obtain⟨a,h⟩:=h
 obtain⟨b,k⟩:=k
 refine⟨a+b,fun n hn => ?_⟩
 show(f n).bind _=_
 rw[h n (by omega)]
 exact k n (by omega)
theorem Ev.ite {c:Prop} [Decidable c] {g:Nat→Option R} (h1:c→Ev f z) (h2 : ¬c→Ev g z):Ev (fun k=>if c then f k else g k) z:=by
 by_cases h:c
 ·obtain⟨k0,hk⟩:=h1 h
  exact⟨k0,fun k hh=>by simp only[M5 h]; exact hk k hh⟩
 ·obtain⟨k0,hk⟩:=h2 h
  exact⟨k0,fun k hh=>by simp only[M2 h]; exact hk k hh⟩
theorem Ev.pos {c:Prop} [Decidable c] {g:Nat→Option R} (hc:c) (h1:Ev f z):Ev (fun k=>if c then f k else g k) z:=Ev.ite (fun _=>h1) (fun h=>P1 hc h)
theorem Ev.neg {c:Prop} [Decidable c] {g:Nat→Option R} (hc : ¬c) (h1:Ev g z):Ev (fun k=>if c then f k else g k) z:=Ev.ite (fun h=>P1 h hc) (fun _=>h1)
end
def nd (E:bK) (I:ak) (args:List SV) (tab:ar) (z:I.sh.den×I.bx.den):Prop:=Ev (fun k=>call E k I args tab) z
theorem nd.at_ {E:bK} {I:ak} {args:List SV} {tab:ar} {z:I.sh.den×I.bx.den} (h:nd E I args tab z) : ∃ k,call E k I args tab=some z:=by
 obtain⟨k,h⟩:=h
 exact⟨k,h k (N4 _)⟩
theorem nd.of {E:bK} {I:ak} {args:List SV} {tab:ar} {z:I.sh.den×I.bx.den} {k:Nat} (h:call E k I args tab=some z):nd E I args tab z :=
 ⟨k,fun m hm=>Hf hm h⟩
theorem nd.calls {P:Program} {E:bK} {Gp:WP} (hst:wF Gp) (hm:P.follows .mixedOrders=true) (hE:dq P E) (hP:pO Gp P E) {I:ak} {args:List SV} {tab:ar} {z:I.sh.den×I.bx.den} (h:nd E I args tab z) {key:Nat} (hg:cd E.fns key=some I) (hcanon : ∀(k:Nat) (p:Nat×aE),tab[k]? = some p→p.1=k)
  {w:World} {γ:Nat→Option G} {Pr:Nat→Nat→Prop} {us:List Value} (hGp:Gp w (iu tab γ)) (hI:aO w (iu tab γ) Pr args (am tab) γ Pr {tmps:=us.toArray,defers:=[]} w) (hlim : ∀ r,tab.length≤r→γ r=none) {N:Nat} (hN:tab.length≤N) {vs bs:List SV} {u u':Up} {n n':Nat} {ub:List (Option aE)}
  (h1:be I.sh z.1 N=(vs,u,n)) (h2:be I.bx z.2 n=(bs,u',n')) (h3:bI I.rb tab bs (lg I.bx)=some ub) :
  Calls P I.g us.toArray w fun e w' => ∃ vals γr Pr',e = .returned (sK vals)∧qM w (iu tab γ) γ Pr N n' vs ub (u++u') vals γr Pr' w' ∧ ∀ p∈ce I.rb tab bs,γr p.1=γ p.2:=by
 obtain⟨k,hk⟩:=h.at_
 exact Hb hst hm hE hP k I args tab z key hg hk hcanon w γ Pr us hGp hI hlim N hN vs u n bs u' n' ub h1 h2 h3
end Go.Proofs.YtfffplonjaigkaaGreatDoor.Abs
namespace Go.Proofs.YtfffplonjaigkaaGreatDoor.Abs
open Go
def kids:Code→List Code
 | .seq a b=>[a,b]
 | .cond _ a b=>[a,b]
 | .block _ a=>[a]
 | .loop a=>[a]
 | _=>[]
def at_:Code→List Nat→Code
 | c,[]=>c
 | c,i :: l=>match kids c,i with
  | a :: _,0=>at_ a l
  | [_,b],1=>at_ b l
  | _,_ => .skip
instance (t:Ty):Inhabited t.den:=⟨t.dflt⟩
def eL (n:Int):L9:=⟨(Lib.itoa n).toArray⟩
def ud:List SV→ar→Option ((Sh.pair (.val .str) .unit).den×Sh.unit.den)
 | [.val (.int .i64) n,.val (.int .i64) b],[]=>if(b:Int)=10 ∧ -9223372036854775808≤(n:Int)∧(n:Int)≤9223372036854775807 then some ((eL n,()),()) else none
 | _,_=>none
def lB (c:L9):Bool:=decide (c.size≤1000) && c.data.toList.all fun b=>decide (b.toNat < 128)
def jS:List SV→ar→Option ((Sh.pair (.val .str) .unit).den×Sh.unit.den)
 | [.val .str s,.val .str c],[]=>if lB c=true then some ((⟨(Lib.trimLeftS (s:L9).data.toList (c:L9).data.toList).toArray⟩,()),()) else none
 | _,_=>none
def qQ:List SV→ar→Option ((Sh.pair (.val .str) .unit).den×Sh.unit.den)
 | [.val .str s,.val .str c],[]=>if lB c=true∧(s:L9).size≤9223372036854775807 then some ((⟨(Lib.trimS (s:L9).data.toList (c:L9).data.toList).toArray⟩,()),()) else none
 | _,_=>none
def ue:List SV→ar→Option ((Sh.pair (.val .str) (.pair (.val .str) (.pair (.val .bool) .unit))).den×Sh.unit.den)
 | [.val .str s,.val .str c],[]=>if(s:L9).size < 4294967281 then some ((⟨(Lib.cut (s:L9).data.toList (c:L9).data.toList).1.toArray⟩,⟨(Lib.cut (s:L9).data.toList (c:L9).data.toList).2.1.toArray⟩,(Lib.cut (s:L9).data.toList (c:L9).data.toList).2.2,()),()) else none
 | _,_=>none
def lm:List SV→ar→Option ((Sh.pair (.val .str) .unit).den×Sh.unit.den)
 | [.val .str s,.val .str a,.val .str b],[]=>if(s:L9).size < 4294967281∧1≤(a:L9).size∧(s:L9).size+Lib.countB s a*(b:L9).size≤140737488355328 then some ((⟨(Lib.replaceAll (s:L9).data.toList (a:L9).data.toList (b:L9).data.toList).toArray⟩,()),()) else none
 | _,_=>none
def qR (e:TypeId):List SV→ar→Option ((Sh.pair (.val .str) .unit).den×Sh.unit.den)
 | [.val t xs,.val .str c],[]=>(gk? (t:=t) (.slice e .str) xs).bind fun xs=>if(xs:List L9).length≤140737488355328∧(Lib.join ((xs:List L9).map (·.data.toList)) (c:L9).data.toList).length≤140737488355328 then some ((⟨(Lib.join ((xs:List L9).map (·.data.toList)) (c:L9).data.toList).toArray⟩,()),()) else none
 | _,_=>none
def bD (l:List UInt8):Int×Bool:=match Lib.parseIntB 64 l with
 | .ok v=>(v,true)
 | .range=>(Lib.intSat 64 l,false)
 | _=>(0,false)
def jT:List SV→ar→Option ((Sh.pair (.val (.int .i64)) (.pair (.val .err) .unit)).den×Sh.unit.den)
 | [.val .str s,.val (.int .i64) b,.val (.int .i64) n],[]=>if(s:L9).size≤281474976710656∧(b:Int)=10∧(n:Int)=64 then some (((bD (s:L9).data.toList).1,(bD (s:L9).data.toList).2,()),()) else none
 | _,_=>none
open Go Go.RowKit
theorem Ev.uniq {R:Type} {f:Nat→Option R} {z z':R} (h:Ev f z) (h':Ev f z'):z=z':=by
 obtain⟨a,h⟩:=h
 obtain⟨b,h'⟩:=h'
 have h1:=h (a+b) (by omega)
 rw[h' (a+b) (by omega)] at h1
 exact(R5 h1).symm
open Classical in
noncomputable def lim {R:Type} (f:Nat→Option R):Option R:=if h : ∃ z,Ev f z then some h.choose else none
theorem I8 {R:Type} {f:Nat→Option R} {z:R}:lim f=some z↔Ev f z:=by
 unfold lim
 constructor
 ·intro h
  split at h
  ·rename_i hz
   have:=hz.choose_spec
   rw[R5 h] at this
   exact this
  ·cases h
 ·intro h
  have hz : ∃ z,Ev f z:=⟨z,h⟩
  rw[dif_pos hz,hz.choose_spec.uniq h]
noncomputable def gm (E:bK):ij:=fun I _ K c S σ=>lim fun k=>run E k I K c S σ
theorem oy {E:bK} {I:ak} {R:Type} {K:St→Option R} {c:Code} {S:List Fr} {σ:St} {z:R}:gm E I K c S σ=some z ↔ ∃ k,∀ m,k≤m→run E m I K c S σ=some z:=I8
theorem EP {E:bK} {I:ak} {R:Type} {K:St→Option R} {c:Code} {S:List Fr} {σ:St} {z:R} {k:Nat} (h:run E k I K c S σ=some z):gm E I K c S σ=some z :=
 oy.2 ⟨k,fun m hm=>vz E hm (fun _ h=>h) h⟩
section
variable {E:bK} {call:(I:ak)→List SV→ar→Option (I.sh.den×I.bx.den)} {call':Nat→(I:ak)→List SV→ar→Option (I.sh.den×I.bx.den)}
theorem ne (hc : ∀ I args tab z,call I args tab=some z → ∃ k,∀ m,k≤m→call' m I args tab=some z) {g key:Nat} {args:List SV} {res:ar} {r0:Nat} {p:SV×Up} (h:dS E call g key args res r0 bJ=some p) : ∃ k,∀ m,k≤m→dS E (call' m) g key args res r0 bJ=some p:=by
 unfold dS at h ⊢
 cases hI:cd E.fns key with
 | none=>rw[hI] at h; cases h
 | some I =>
  simp only[hI] at h ⊢
  cases hg:Q7 I.g g with
  | false=>rw[hg] at h; cases h
  | true =>
   simp only[hg] at h ⊢
   cases hv:mV res (I.fn.params.toList.map fun T=>cd E.ty T) I.own args with
   | none=>rw[hv] at h; cases h
   | some q =>
    obtain⟨args',fr⟩:=q
    simp only[hv] at h ⊢
    split at h
    ·rename_i h1 h2 h3
     rw[M4] at h
     obtain⟨z,hz,h⟩:=h
     obtain⟨k,hk⟩:=hc _ _ _ _ hz
     refine⟨k,fun m hm => ?_⟩
     rw[M4]
     exact⟨z,hk m hm,h⟩
    ·cases h
theorem DJ (hc : ∀ I args tab z,call I args tab=some z → ∃ k,∀ m,k≤m→call' m I args tab=some z) {g:Nat} {args:List SV} {res:ar} {r0:Nat} {p:SV×Up} (h:eY E call g args res r0 bJ=some p) : ∃ k,∀ m,k≤m→eY E (call' m) g args res r0 bJ=some p:=by
 unfold eY at h ⊢
 split at h
 ·exact ne hc h
 ·rename_i s hs
  rw[M4] at h
  obtain⟨b,hb,h⟩:=h
  split at h
  ·rename_i hb'
   obtain⟨k,hk⟩:=ne hc h
   refine⟨k,fun m hm => ?_⟩
   rw[M4]
   refine⟨b,hb,?_⟩
   rw[M5 hb']
   exact hk m hm
  ·rename_i hb'
   obtain⟨k,hk⟩:=ne hc h
   refine⟨k,fun m hm => ?_⟩
   rw[M4]
   refine⟨b,hb,?_⟩
   rw[M2 hb']
   exact hk m hm
theorem Hg (hc : ∀ I args tab z,call I args tab=some z → ∃ k,∀ m,k≤m→call' m I args tab=some z) {o:Oper} {vs:List SV} {res:ar} {r0:Nat} {p:SV×Up} (h:bL E call o vs res r0 bJ=some p) : ∃ k,∀ m,k≤m→bL E (call' m) o vs res r0 bJ=some p:=by
 obtain⟨dst,op,ty,pos,after,guard⟩:=o
 cases op
 case call c =>
  obtain⟨callee,args,argTypes⟩:=c
  cases callee with
  | value f =>
   rcases vs with _ | ⟨v1,vs⟩
   ·cases h
   ·cases v1 with
    | fn g caps =>
     rcases vs with _ | ⟨v2,_ | ⟨v3,vs⟩⟩ <;> exact DJ hc h
    | _=>rcases vs with _ | ⟨v2,_ | ⟨v3,vs⟩⟩ <;> cases h
  | _=>rcases vs with _ | ⟨v1,_ | ⟨v2,_ | ⟨v3,vs⟩⟩⟩ <;> exact⟨0,fun _ _=>h⟩
 case makeFunc fn first captured=>cases fn <;> rcases vs with _ | ⟨v1,_ | ⟨v2,_ | ⟨v3,vs⟩⟩⟩ <;> exact⟨0,fun _ _=>h⟩
 all_goals rcases vs with _ | ⟨v1,_ | ⟨v2,_ | ⟨v3,_ | ⟨v4,vs⟩⟩⟩⟩ <;> exact⟨0,fun _ _=>h⟩
def Fy (E:bK) (call:(I:ak)→List SV→ar→Option (I.sh.den×I.bx.den)) {R:Type} (all:Array Oper) (draw:Bool) (base i:Nat) (o:Oper) (l:List (Nat×Oper)) (g:List sB) (K:St→Option R) (σ:St) (b:Bool):Option R:=match b with
 | true=>bL E call o ((ct o.op).map (ev σ.slots)) (dZ σ.res (gR o σ.res ((ct o.op).map (ev σ.slots)))) (base+64*i) fun v u=>match mX (base+64*i) (gR o σ.res ((ct o.op).map (ev σ.slots))) u with
  | true=>bO E call all draw base l ({i,see:=gR o σ.res ((ct o.op).map (ev σ.slots)),turn:=u.map (·.1)} :: g) (i8 σ o.dst v u) K
  | false=>none
 | false=>bO E call all draw base l ({i,see:=[],turn:=[]} :: g) (i8 σ o.dst (.tup []) []) K
theorem o6 (hc : ∀ I args tab z,call I args tab=some z → ∃ k,∀ m,k≤m→call' m I args tab=some z) {R:Type} {K:St→Option R} {K':Nat→St→Option R} {z:R} (hK : ∀ σ,K σ=some z → ∃ k,∀ m,k≤m→K' m σ=some z) {all:Array Oper} {draw:Bool} {base:Nat} :
  ∀ {l:List (Nat×Oper)} {g:List sB} {σ:St},bO E call all draw base l g σ K=some z → ∃ k,∀ m,k≤m→bO E (call' m) all draw base l g σ (K' m)=some z
 | [],g,σ,h=>by
  unfold bO at h ⊢
  cases draw with
  | false=>exact hK σ h
  | true =>
   simp only at h ⊢
   split at h
   ·rename_i h1 h2
    exact hK σ h
   ·cases h
 | (i,o) :: l,g,σ,h=>by
  have act : ∀(σ:St) (b:Bool),Fy E call all draw base i o l g K σ b=some z → ∃ k,∀ m,k≤m→Fy E (call' m) all draw base i o l g (K' m) σ b=some z:=by
   unfold Fy
   intro σ b h
   cases b with
   | true =>
    obtain⟨v,u,h1,h2⟩:=sC h
    obtain⟨k1,hk1⟩:=Hg hc h1
    split at h2
    ·rename_i hs
     obtain⟨k2,hk2⟩:=o6 hc hK h2
     refine⟨k1+k2,fun m hm => ?_⟩
     rw[Bk,hk1 m (by omega)]
     simp only[M0,hs]
     exact hk2 m (by omega)
    ·cases h2
   | false=>exact o6 hc hK h
  unfold bO at h
  simp only[bO]
  dsimp only at h ⊢
  split at h
  ·exact act σ true h
  ·rename_i j want hg
   split at h
   ·rename_i d hd
    split at h
    ·split at h
     ·rename_i hx
      simp only[M5 hx]
      exact act {σ with slots:=cg σ.slots d (.val .bool true)} (true == want) h
     ·rename_i hx
      simp only[M2 hx]
      exact act {σ with slots:=cg σ.slots d (.val .bool false)} (false == want) h
    ·exact act σ false h
    ·cases h
   ·cases h
theorem zx {rec:ij} {rec':Nat→ij} {I:ak} {R:Type} {K:St→Option R} (hr : ∀(I:ak) (R:Type) (K:St→Option R) c S σ z,rec I K c S σ=some z → ∃ k,∀ m,k≤m→rec' m I K c S σ=some z) {c:Code} {S:List Fr} {σ:St} {z:R} (h:lR E rec I K c S σ=some z) : ∃ k,∀ m,k≤m→lR E (rec' m) I K c S σ=some z:=by
 have ihp : ∀ {S:List Fr} {σ:St},mY rec I K S σ=some z → ∃ k,∀ m,k≤m→mY (rec' m) I K S σ=some z:=by
  intro S σ h
  cases S with
  | nil=>exact⟨0,fun _ _=>h⟩
  | cons f S=>cases f <;> exact hr _ _ _ _ _ _ _ h
 have ihc : ∀ I args tab z,c7 E rec I args tab=some z → ∃ k,∀ m,k≤m→c7 E (rec' m) I args tab=some z:=fun I args tab z h=>by
  unfold c7 at h ⊢
  split at h
  ·exact⟨0,fun _ _=>h⟩
  ·exact hr _ _ _ _ _ _ _ h
 unfold lR at h ⊢
 split at h
 ·exact ihp h
 ·dsimp only at h ⊢
  exact o6 ihc (K':=fun m σ'=>mY (rec' m) I K S {σ' with nx:=_}) (fun σ' h'=>ihp h') h
 ·exact hr _ _ _ _ _ _ _ h
 ·split at h
  ·split at h
   ·rename_i hx
    simp only[M5 hx]
    exact hr _ _ _ _ _ _ _ h
   ·rename_i hx
    simp only[M2 hx]
    exact hr _ _ _ _ _ _ _ h
  ·cases h
 ·exact hr _ _ _ _ _ _ _ h
 ·exact hr _ _ _ _ _ _ _ h
 ·split at h
  ·exact hr _ _ _ _ _ _ _ h
  ·cases h
 ·exact⟨0,fun _ _=>h⟩
 ·cases h
end
theorem I9 {E:bK} {I:ak} {R:Type} {K:St→Option R} {c:Code} {S:List Fr} {σ:St}:gm E I K c S σ=lR E (gm E) I K c S σ:=by
 refine Option.ext fun z=>⟨fun h => ?_,fun h => ?_⟩
 ·obtain⟨k,hk⟩:=oy.1 h
  have h1:=hk (k+1) (by omega)
  rw[jc] at h1
  obtain⟨_,h2⟩:=zx (rec':=fun _=>gm E) (fun _ _ _ _ _ _ _ h=>⟨0,fun _ _=>EP h⟩) h1
  exact h2 _ (N4 _)
 ·obtain⟨k,hk⟩:=zx (rec':=fun m=>run E m) (fun _ _ _ _ _ _ _ h=>oy.1 h) h
  exact EP (k:=k+1) (by rw[jc]; exact hk k (N4 _))
def Hh (E:bK) (rc rec:ij) (I:ak) {R:Type} (K:St→Option R) (c:Code) (S:List Fr) (σ:St):Option R:=match c with
 | .region id ops draw=>bO {E with sub:=I.sub} (c7 E rc) ops draw σ.nx ((U4 ops.size).zip ops.toList) [] σ fun σ'=>mY rec I K S {σ' with nx:=σ.nx+64*ops.size}
 | _=>none
theorem JT : ∃ f:(E:bK)→(rc:ij)→(I:ak)→(R:Type)→(St→Option R)→Code→List Fr→St→Option R,∀ E rc I R K c S σ,f E rc I R K c S σ=Hh E rc rc I K c S σ :=
 ⟨fun E rc I R K c S σ=>Hh E rc rc I K c S σ,fun _ _ _ _ _ _ _ _=>rfl⟩
noncomputable def pt (E:bK) (rc:ij) (I:ak) {R:Type} (K:St→Option R) (c:Code) (S:List Fr) (σ:St):Option R:=Classical.choose JT E rc I R K c S σ
theorem JU {E:bK} {rc:ij} {I:ak} {R:Type} {K:St→Option R} {c:Code} {S:List Fr} {σ:St}:pt E rc I K c S σ=Hh E rc rc I K c S σ:=Classical.choose_spec JT E rc I R K c S σ
noncomputable def A6 (E:bK) (rc rec:ij):ij:=fun I _ K c S σ=>match c with
 | .skip=>mY rec I K S σ
 | .region id ops draw=>match cd I.live id with
  | some l=>pt E rc I K (.region id ops draw) S (norm l σ)
  | none=>Hh E rc rec I K (.region id ops draw) S σ
 | .seq a b=>rec I K a (.seq b :: S) σ
 | .cond c a b=>match ev σ.slots c with
  | .val .bool x=>if x=true then rec I K a S σ else rec I K b S σ
  | _=>none
 | .block id b=>rec I K b (.block id :: S) σ
 | .loop b=>rec I K b (.loop b :: S) σ
 | .exit id=>match qF I id S with | some S'=>rec I K .skip S' σ | none=>none
 | .ret=>K σ
 | _=>none
noncomputable def A7 (E:bK) (rc:ij) (n:Nat):ij:=Nat.rec rc (fun _ rec=>A6 E rc rec) n
theorem Ja {E:bK}:A6 E (gm E) (gm E)=gm E:=by
 funext I R K c S σ
 rw[I9]
 unfold A6 lR
 cases c <;> try rfl
 rename_i id ops draw
 dsimp only
 cases cd I.live id with
 | none=>rfl
 | some l=>exact JU
theorem vA {E:bK} : ∀ n,A7 E (gm E) n=gm E
 | 0=>rfl
 | n+1=>by
  show A6 E (gm E) (A7 E (gm E) n)=_
  rw[vA n,Ja]
noncomputable def ag (E:bK) (I:ak) (args:List SV) (tab:ar):Option (I.sh.den×I.bx.den):=c7 E (gm E) I args tab
theorem az {E:bK} {I:ak} {args:List SV} {tab:ar} {z:Option (I.sh.den×I.bx.den)} (h:c7 E (A7 E (gm E) 4000) I args tab=z:=by kernel_rfl):ag E I args tab=z:=by
 rw[←h,vA]
 rfl
theorem bA {E:bK} {I:ak} {R:Type} {K:St→Option R} {c:Code} {S:List Fr} {σ:St} {z:Option R} (h:Hh E (gm E) (A7 E (gm E) 4000) I K c S σ=z:=by kernel_rfl):pt E (gm E) I K c S σ=z:=by
 rw[←h,vA]
 exact JU
theorem nd.ofL {E:bK} {I:ak} {args:List SV} {tab:ar} {z:I.sh.den×I.bx.den} (h:ag E I args tab=some z):nd E I args tab z:=by
 unfold ag c7 at h
 unfold nd call c7
 split at h
 ·exact⟨0,fun _ _=>h⟩
 ·exact oy.1 h
end Go.Proofs.YtfffplonjaigkaaGreatDoor.Abs
namespace Go.Proofs.YtfffplonjaigkaaGreatDoor.Abs
open Go
section
variable {α β:Type}
def ix (xs:List α) (i:Int) (d:α) (f:α→Option β):Option β:=if 0≤i then(if i < (xs.length:Int) then f (xs.getD i.toNat d) else none) else none
def fq (xs:List α) (i:Int) (k:Option β):Option β:=if 0≤i then(if i < (xs.length:Int) then k else none) else none
def cM (s:L9) (i:Int) (f:Int→Option β):Option β:=if 0≤i then(if i < (s.size:Int) then f (bt s i) else none) else none
def EQ (n:Int) (b:Nat) (d:α) (f:List α→Option β):Option β:=if 0≤n then(if n.toNat*b≤140737488355328 then f (P3 n.toNat d) else none) else none
def aZ (a b:L9) (f:L9→Option β):Option β:=if a.size+b.size≤9223372036854775807 then f (a++b) else none
def mf (a b:List α) (n:Nat) (f:List α→Option β):Option β:=if(a.length+b.length)*n≤140737488355328 then f (a++b) else none
def uS (s:L9) (h:Int) (f:L9→Option β):Option β:=if 0≤h then(if h≤(s.size:Int) then f (s.extract 0 h.toNat) else none) else none
def fC (s:L9) (l:Int) (f:L9→Option β):Option β:=if 0≤l then(if l≤(s.size:Int) then f (s.extract l.toNat s.size) else none) else none
def oz (s:L9) (l h:Int) (f:L9→Option β):Option β:=if 0≤h then(if h≤(s.size:Int) then(if 0≤l then(if l≤h then f (s.extract l.toNat h.toNat) else none) else none) else none) else none
end
def Fz:Nat→Nat→List Nat→List Nat
 | 0,_,l=>l
 | k+1,n,l=>match Nat.ble n 1 with
  | true=>l
  | false=>Fz k (n / 2) (n % 2 :: l)
def zy (c:Code) (l:List Nat) (S:List Fr):Code×List Fr:=match l with
 | []=>(c,S)
 | i :: l=>match c,i with
  | .seq a b,0=>zy a l (.seq b :: S)
  | .seq _ b,1=>zy b l S
  | .cond _ a _,0=>zy a l S
  | .cond _ _ b,1=>zy b l S
  | .block id b,0=>zy b l (.block id :: S)
  | .loop b,0=>zy b l (.loop b :: S)
  | _,_=>(.skip,[])
noncomputable abbrev bB (E:bK) (I:ak) (tab:ar) (c:Code) (n:Nat) (σ:St):Option (I.sh.den×I.bx.den):=pt E (gm E) I (fN E I tab) (zy c (Fz 200 n []) []).1 (zy c (Fz 200 n []) []).2 σ
abbrev ai (x:Int):SV := .val (.int .i64) x
abbrev cE (x:Bool):SV := .val .bool x
abbrev aL (x:L9):SV := .val .str x
abbrev aa:SV := .undef
abbrev aj (g:Nat) (fn:Func) (sh bx:Sh) (own:List Bool) (live:List (Nat×List Nat)):ak:={g,fn,sh,bx,own,live}
def jw (e:TypeId):List SV→ar→Option (Sh.unit.den×(Sh.pair (.row e (.int .i64) false) .unit).den)
 | [.row 0],[(0,.row e' s xs false)]=>(gk? (t := .slice e' s) (.slice e (.int .i64)) xs).bind fun xs=>if(xs:List Int).length < 4611686018427387904 then some ((),(xs:List Int).mergeSort (fun x y=>decide (x≤y)),()) else none
 | _,_=>none
theorem wr {n:Int} (h0 : -9223372036854775808≤n) (h1:n≤9223372036854775807):IntKind.i64.wrap n=n:=by
 simp only[IntKind.wrap,IntKind.bits,IntKind.signed]
 simp
 omega
theorem toList_inj {a b:L9} (h:a.toList=b.toList):a=b:=by
 rw[ByteArray.toList_eq,ByteArray.toList_eq] at h
 cases a
 cases b
 congr
 exact U3.1 h
@[simp] theorem zz {a b:L9}:(M1 a == M1 b)=decide (a=b):=by
 by_cases h:a=b
 ·subst h
  simp
 ·rw[decide_eq_false h]
  have:M1 a≠M1 b:=fun e=>h (toList_inj e)
  simpa using this
theorem pQ {α:Type} {l r:List α} {y d:α}:List.getD (l++y :: r) (P9 (l.length:Int)) d=y:=by
 simp[List.getD_eq_getElem?_getD]
theorem KY {α:Type} {l r:List α} {y z:α}:List.set (l++y :: r) (P9 (l.length:Int)) z=l++z :: r:=by
 simp
theorem Jb {α:Type} {l:List α} {y:α}:((l.length:Nat):Int)+1=((l++[y]).length:Int):=by simp
theorem BN {α:Type} {l r:List α} {y:α}:((l.length:Nat):Int) < ((l++y :: r).length:Int):=by
 simp only[M6,N3]
 omega
theorem nn (n:Nat):(0:Int)≤(n:Int):=Int.natCast_nonneg n
theorem Ev.val {R:Type} {x z:R} (h:x=z):Ev (fun _=>some x) z:=h ▸ Ev.now
open Go Go.RowKit Go.ChangeShapes Go.WideShapes
def ko:(t:Ty)→t.den→Prop
 | .int k,n=>(Lit.int k n).wf=true
 | .bool,_=>True
 | .err,_=>True
 | .fn,_=>True
 | .pt,_=>True
 | .bp _,_=>True
 | .str,s=>(s:L9).size≤maxLen
 | .unit,_=>True
 | .pair a b,x=>ko a x.1∧ko b x.2
 | .agg t,x=>ko t x
 | .slice _ t,xs=>(xs:List t.den).length≤maxLen ∧ ∀ x∈(xs:List t.den),ko t x
def wR (P:Program) (g:TypeId→Ty→Bool):List Field→Ty→Nat→Bool
 | [],.unit,_=>true
 | f :: fs,.pair a b,o=>Q7 f.offset o && Q7 (P.cellsOf f.type) a.sz && g f.type a && wR P g fs b (o+a.sz)
 | _,_,_=>false
def dV (P:Program):Nat→TypeId→Ty→Bool
 | 0,_,_=>false
 | _+1,T,.int k=>match P.underlying T with | some (.int k')=>decide (k'=k) | _=>false
 | _+1,T,.bool=>match P.underlying T with | some .bool=>true | _=>false
 | _+1,T,.str=>match P.underlying T with | some .string=>true | _=>false
 | d+1,T,.slice e t=>match P.underlying T with | some (.slice e')=>Q7 e' e && Q7 (P.cellsOf e) t.sz && Nat.blt 0 t.sz && dV P d e t | _=>false
 | d+1,T,.agg t=>match P.underlying T with
  | some (.struct fs)=>Q7 (P.cellsOf T) t.sz && wR P (dV P d) fs.toList t 0
  | _=>false
 | _,_,_=>false
theorem zA {α:Type} {Q:Nat→α→Prop} : ∀(n:Nat),(∀ i,i < n → ∃ y,Q i y) → ∃ ys:List α,ys.length=n ∧ ∀ i (h:i < ys.length),Q i ys[i]
 | 0,_=>⟨[],rfl,fun i h=>by simp at h⟩
 | n+1,h=>by
  obtain⟨ys,h1,h2⟩:=zA n (fun i hi=>h i (by omega))
  obtain⟨y,hy⟩:=h n (by omega)
  refine⟨ys++[y],by simp[h1],fun i hi => ?_⟩
  by_cases hin:i < ys.length
  ·rw[List.getElem_append_left hin]
   exact h2 i hin
  ·rw[M6,List.length_singleton] at hi
   have:i=n:=by omega
   subst this
   rw[List.getElem_append_right (by omega)]
   simpa[h1] using hy
section
variable {H:Type} {enc:TypeId×Value→H} {P:Program} {w:World} {base:Nat} {sp:Nat→Bool} {held:Bool}
theorem BO {g:TypeId→Ty→Bool} {n:Nat} (hg : ∀ T t,g T t=true → ∀ cs x,DataW.trod enc P w base sp held n T cs=some x → ∃ y:t.den,RK (uN w) t y cs∧ko t y) :
  ∀ {fs:List Field} {t:Ty} {o:Nat} {cs:List Value},wR P g fs t o=true→cs.length=o+t.sz→(∀ f∈fs,∃ x,DataW.trod enc P w base sp held n f.type ((cs.drop f.offset).take (P.cellsOf f.type))=some x) → ∃ y:t.den,RK (uN w) t y (cs.drop o)∧ko t y
 | [],.unit,o,cs,_,hl,_=>⟨(),by
   show cs.drop o=[]
   exact List.drop_eq_nil_of_le (by rw[hl]; exact N4 _),trivial⟩
 | f :: fs,.pair a b,o,cs,h,hl,hf=>by
  simp only[wR,M7] at h
  obtain⟨⟨⟨h1,h2⟩,h3⟩,h4⟩:=h
  have h1:=P2 h1
  have h2:=P2 h2
  obtain⟨x,hx⟩:=hf f (by simp)
  rw[h1,h2] at hx
  obtain⟨y1,k1,m1⟩:=hg f.type a h3 _ _ hx
  have hl':cs.length=o+a.sz+b.sz:=by
   rw[hl,T0]
   rfl
  obtain⟨y2,k2,m2⟩:=BO hg (fs:=fs) (t:=b) (o:=o+a.sz) (cs:=cs) h4 hl' (fun f hf'=>hf f (N5 _ hf'))
  refine⟨(y1,y2),⟨(cs.drop o).take a.sz,cs.drop (o+a.sz),?_,k1,k2⟩,m1,m2⟩
  rw[←List.drop_drop,List.take_append_drop]
 | [],.int _,_,_,h,_,_=>by cases h
 | [],.bool,_,_,h,_,_=>by cases h
 | [],.err,_,_,h,_,_=>by cases h
 | [],.fn,_,_,h,_,_=>by cases h
 | [],.pt,_,_,h,_,_=>by cases h
 | [],.bp _,_,_,h,_,_=>by cases h
 | [],.str,_,_,h,_,_=>by cases h
 | [],.pair _ _,_,_,h,_,_=>by cases h
 | [],.agg _,_,_,h,_,_=>by cases h
 | [],.slice _ _,_,_,h,_,_=>by cases h
 | _ :: _,.int _,_,_,h,_,_=>by cases h
 | _ :: _,.bool,_,_,h,_,_=>by cases h
 | _ :: _,.err,_,_,h,_,_=>by cases h
 | _ :: _,.fn,_,_,h,_,_=>by cases h
 | _ :: _,.pt,_,_,h,_,_=>by cases h
 | _ :: _,.bp _,_,_,h,_,_=>by cases h
 | _ :: _,.str,_,_,h,_,_=>by cases h
 | _ :: _,.unit,_,_,h,_,_=>by cases h
 | _ :: _,.agg _,_,_,h,_,_=>by cases h
 | _ :: _,.slice _ _,_,_,h,_,_=>by cases h
theorem yj : ∀(d:Nat) (T:TypeId) (t:Ty),dV P d T t=true → ∀(fuel:Nat) (cs:List Value) (x:DataW H×List MemPlace),DataW.trod enc P w base sp held fuel T cs=some x → ∃ y:t.den,RK (uN w) t y cs∧ko t y
 | 0,_,_,h,_,_,_,_=>by simp[dV] at h
 | d+1,T,.int k,h,fuel,cs,x,hx=>by
  unfold dV at h
  split at h
  ·rename_i k' hu
   have:=R3 h
   subst this
   obtain⟨n,rfl,_,hw⟩:=DataW.trod_int hu hx
   exact⟨n,rfl,hw⟩
  ·cases h
 | d+1,T,.bool,h,fuel,cs,x,hx=>by
  unfold dV at h
  split at h
  ·rename_i hu
   obtain⟨b,rfl,_⟩:=DataW.trod_bool hu hx
   exact⟨b,rfl,trivial⟩
  ·cases h
 | d+1,T,.str,h,fuel,cs,x,hx=>by
  unfold dV at h
  split at h
  ·rename_i hu
   obtain⟨s,rfl,_,hw⟩:=DataW.trod_string hu hx
   exact⟨s,rfl,hw⟩
  ·cases h
 | d+1,T,.slice e t,h,fuel,cs,x,hx=>by
  unfold dV at h
  split at h
  ·rename_i e' hu
   simp only[M7] at h
   obtain⟨⟨⟨h1,h2⟩,h3⟩,h4⟩:=h
   have h1:=P2 h1
   subst h1
   have h2:=P2 h2
   have h3:0 < t.sz:=by simpa[Nat.blt_eq] using h3
   rcases DataW.trod_slice hu hx with⟨rfl,_⟩ | ⟨a,len,cap,elems,rest,n,rfl,rfl,rfl,hb,hle,hmax,hlen,hel,_⟩
   ·exact⟨([]:List t.den),⟨none,0,rfl,N4 _,fun h=>P1 rfl h⟩,W5 _,fun x hx=>by cases hx⟩
   ·have each : ∀ i,i < len → ∃ y:t.den,ko t y ∧ ∃ c,RK (uN w) t y c∧c.length=t.sz ∧ ∀ j,j < t.sz→w.cell? ((a.add (i*t.sz)).add j)=c[j]? := by
     intro i hi
     have h5:=hel i hi
     rw[N8 (by omega),M4,h2] at h5
     obtain⟨c,h6,h7⟩:=h5
     obtain⟨_,h8,h9⟩:=World.cells?_some h6
     obtain⟨y,h10,h11⟩:=yj d e' t h4 _ _ _ h7
     exact⟨y,h11,c,h10,h8,h9⟩
    obtain⟨ys,hyl,hy⟩:=zA len each
    have hyl':len=ys.length:=hyl.symm
    subst hyl'
    refine⟨ys,⟨some a,cap,rfl,hle,fun hne => ?_⟩,Q3 hle hmax,fun y hyy => ?_⟩
    ·have hpos:0 < ys.length:=by
      cases ys with
      | nil=>exact P1 rfl hne
      | cons _ _=>simp
     obtain⟨_,c0,_,hcl,hcc⟩:=hy 0 hpos
     have hsp:a.spot=none:=by
      have:=hcc 0 h3
      rw[N8 (by omega)] at this
      unfold World.cell? at this
      split at this
      ·cases hs:a.spot with
       | none=>rfl
       | some z =>
        simp[Addr.add,hs] at this
      ·cases this
     obtain⟨b,o,s⟩:=a
     simp only at hsp
     subst hsp
     refine⟨b,o,rfl,fun i hi => ?_⟩
     obtain⟨_,c,k1,k2,k3⟩:=hy i hi
     refine⟨c,k1,fun j v hj=>⟨trivial,?_⟩⟩
     have hjl:j < t.sz:=by
      rw[←k2]
      exact(N7.1 hj).1
     have:=k3 j hjl
     rw[hj,et,et] at this
     exact this
    ·obtain⟨i,hi,he⟩:=T6 hyy
     rw[←he]
     exact(hy i hi).1
  ·cases h
 | d+1,T,.agg t,h,fuel,cs,x,hx=>by
  unfold dV at h
  split at h
  ·rename_i fs hu
   simp only[M7] at h
   have h1:=P2 h.1
   obtain⟨xs,n,rfl,rfl,hl,hxl,hf⟩:=DataW.trod_struct hu hx
   have:=BO (g:=dV P d) (n:=n) (fun T t hT cs x hx=>yj d T t hT n cs x hx) (cs:=cs) h.2 (by rw[hl,h1,S3]) (fun f hfm=>by
    obtain⟨i,hi,he⟩:=T6 hfm
    have hi':i < fs.size:=by simpa using hi
    have:=hf i f (by rw[Q4 hi']; simpa using he)
    rw[N8 (by omega)] at this
    exact⟨_,this⟩)
   obtain⟨y,h3,h4⟩:=this
   exact⟨y,h3,h4⟩
  ·cases h
 | d+1,T,.unit,h,_,_,_,_=>by simp[dV] at h
 | d+1,T,.err,h,_,_,_,_=>by simp[dV] at h
 | d+1,T,.fn,h,_,_,_,_=>by simp[dV] at h
 | d+1,T,.pt,h,_,_,_,_=>by simp[dV] at h
 | d+1,T,.bp _,h,_,_,_,_=>by simp[dV] at h
 | d+1,T,.pair _ _,h,_,_,_,_=>by simp[dV] at h
theorem Jc {d:Nat} {T:TypeId} {t:Ty} (h:dV P d T t=true) {r:Reach} {v:Value} (hv:Value.okWide P w r base T v):v=mk t v.cells.toList:=by
 cases d with
 | zero=>simp[dV] at h
 | succ d =>
  unfold dV at h
  cases t with
  | int k =>
   simp only at h
   split at h
   ·rename_i hu
    obtain⟨n,rfl⟩:=okWide_int hu hv
    rfl
   ·cases h
  | bool =>
   simp only at h
   split at h
   ·rename_i hu
    obtain⟨b,rfl⟩:=okWide_bool hu hv
    rfl
   ·cases h
  | str =>
   simp only at h
   split at h
   ·rename_i hu
    obtain⟨s,rfl⟩:=okWide_string hu hv
    rfl
   ·cases h
  | slice e t =>
   simp only at h
   split at h
   ·rename_i hu
    obtain⟨a,l,c,rfl⟩:=okWide_slice hu hv
    rfl
   ·cases h
  | agg t =>
   simp only at h
   split at h
   ·rename_i hu
    obtain⟨cs,rfl,_⟩:=okWide_struct hu hv
    show Value.agg cs = .agg cs.toList.toArray
    simp
   ·cases h
  | unit=>simp at h
  | err=>simp at h
  | fn=>simp at h
  | pt=>simp at h
  | bp _=>simp at h
  | pair a b=>simp at h
theorem BP {d:Nat} {T:TypeId} {t:Ty} (h:dV P d T t=true) {r:Reach} {v:Value} {x:DataW H} {ps:List MemPlace} (hv:Value.okWide P w r base T v) (hx:DataW.Trod enc P w 0 sp held T v x ps) : ∃ y:t.den,ko t y∧v=mk t v.cells.toList∧RK (uN w) t y v.cells.toList:=by
 obtain⟨fuel,hx⟩:=hx
 obtain⟨y,h1,h2⟩:=yj d T t h fuel _ _ hx
 exact⟨y,h2,Jc h hv,h1⟩
end
abbrev wS (w:World) (b o:Nat):Prop := ∃ v,w.cell? ⟨b,o,none⟩=some v
theorem Hi {w:World} {args:List SV} {us:List Value} (h:bE (Ln (wS w) w) (fun _=>none) args us):aO w (iu [] fun _=>none) (wS w) args (am []) (fun _=>none) (wS w) {tmps:=us.toArray,defers:=[]} w:=by
 refine⟨h,rfl,(fun r e t v h=>by cases h),(fun r b t h=>by cases h),(fun r x h=>by cases h),(fun r r' x x' b h=>by cases h),(fun r x b h=>by cases h),(fun r x b h=>by cases h),fun _ _ _=>rfl,N4 _,rfl,rfl,rfl,?_,fun _ _ _ _ h=>h,fun _ _ _ h=>h⟩
 rintro b o ⟨v,hv⟩
 unfold World.cell? at hv
 split at hv
 ·rename_i h
  exact(P6.1 h).1
 ·cases hv
theorem BQ {w:World} {t:Ty} {y:t.den} {v:Value} (h1:v=mk t v.cells.toList) (h2:RK (uN w) t y v.cells.toList):RV (Ln (wS w) w) (fun _=>none) (.val t y) v:=by
 rw[h1]
 exact .val (dT (fun b o v h=>⟨⟨v,h.2⟩,h.2⟩) h2)
theorem Hj {P:Program} {E:bK} {Gp:WP} (hst:wF Gp) (hm:P.follows .mixedOrders=true) (hE:dq P E) (hP:pO Gp P E) {I:ak} {key:Nat} (hg:cd E.fns key=some I) {args:List SV} {z:I.sh.den×I.bx.den} (h:nd E I args [] z)
  (h1:be I.sh z.1 0=([.val .bool true],[],0)) (h2:be I.bx z.2 0=([],[],0)) (h3:bI I.rb [] [] (lg I.bx)=some []) {w:World} {us:List Value} (hGp:Gp w (iu [] fun _=>none)) (hu:bE (Ln (wS w) w) (fun _=>none) args us) :
  Calls P I.g us.toArray w fun e w'=>e = .returned (.bool true)∧Below w.heap.size w w':=by
 have:=h.calls hst hm hE hP hg (fun k p hp=>by simp at hp) hGp (Hi hu) (fun _ _=>rfl) (N:=0) (W5 _) h1 h2 h3
 refine this.mono ?_
 rintro e w' ⟨vals,γr,Pr',rfl,hB,_⟩
 have hv:=hB.vals
 cases hv with
 | cons hv hk =>
  cases hk
  have:=ez hv
  subst this
  refine⟨rfl,hB.os,hB.tape,hB.output,hB.size,fun k hk=>hB.frame k hk ?_⟩
  rintro⟨j,x,hj,_⟩
  cases hj
end Go.Proofs.YtfffplonjaigkaaGreatDoor.Abs
namespace Go.Proofs.YtfffplonjaigkaaGreatDoor.Abs
open Go Go.RowKit
def sR:(t:Ty)→t.den→List Value
 | .int k,n=>[.int k n]
 | .bool,b=>[.bool b]
 | .err,_=>[]
 | .fn,_=>[]
 | .pt,_=>[]
 | .bp _,_=>[]
 | .str,s=>[.string s]
 | .unit,_=>[]
 | .pair a b,x=>sR a x.1++sR b x.2
 | .agg t,x=>sR t x
 | .slice _ _,_=>[]
theorem nf {L:Lk} : ∀ {t:Ty} {x:t.den} {cs:List Value},cq t=true→(RK L t x cs↔cs=sR t x)
 | .int k,n,cs,_=>Iff.rfl
 | .bool,b,cs,_=>Iff.rfl
 | .err,_,_,hn=>by cases hn
 | .fn,_,_,hn=>by cases hn
 | .pt,_,_,hn=>by cases hn
 | .bp _,_,_,hn=>by cases hn
 | .str,s,cs,_=>Iff.rfl
 | .unit,_,cs,_=>Iff.rfl
 | .pair a b,x,cs,hn=>by
  simp only[cq,M7] at hn
  constructor
  ·rintro⟨c,d,rfl,h1,h2⟩
   rw[(nf hn.1).1 h1,(nf hn.2).1 h2]
   rfl
  ·rintro rfl
   exact⟨_,_,rfl,(nf hn.1).2 rfl,(nf hn.2).2 rfl⟩
 | .agg t,x,cs,hn=>nf (t:=t) hn
 | .slice _ _,_,_,hn=>by cases hn
theorem ER {L:Lk} {t:Ty} (hn:cq t=true) {xs:List t.den} {css:List (List Value)}:gz L t xs css↔css=xs.map (sR t):=by
 constructor
 ·rintro⟨h1,h2⟩
  apply List.ext_getElem (by simp[h1])
  intro i h3 h4
  rw[List.getElem_map]
  exact(nf hn).1 (h2 i (by omega) h3)
 ·rintro rfl
  refine⟨by simp,fun i h h' => ?_⟩
  rw[List.getElem_map]
  exact(nf hn).2 rfl
end Go.Proofs.YtfffplonjaigkaaGreatDoor.Abs
namespace Go.Proofs.YtfffplonjaigkaaGreatDoor.Abs
open Go Go.RowKit
def FA:(s:Sh)→s.den→List Value→Prop
 | .pair (.val t) b,x,us => ∃ cs us',us=mk t cs :: us'∧RK (fun _ _ _=>False) t x.1 cs∧FA b x.2 us'
 | .unit,_,us=>us=[]
 | _,_,_=>False
theorem uT {γ:Nat→Option G} : ∀ {s:Sh} {x:s.den} {us:List Value} (n:Nat),FA s x us → ∃ vs,be s x n=(vs,[],n)∧bE (fun _ _ _=>False) γ vs us
 | .pair (.val t) b,x,us,n,h=>by
  obtain⟨cs,us',rfl,hk,h⟩:=h
  obtain⟨vs,h1,h2⟩:=uT (γ:=γ) (s:=b) (x:=x.2) n h
  refine⟨.val t x.1 :: vs,?_,.cons (.val hk) h2⟩
  show(let (v,u,m):=ap (.val t) x.1 n; let (l,u',m'):=ap.go b x.2 m; (v :: l,u++u',m'))=_
  have h1:ap.go b x.2 n=(vs,[],n):=h1
  simp only[ap,h1,Q9]
 | .unit,x,us,n,h=>⟨[],rfl,by rw[show us=[] from h]; exact .nil⟩
 | .val _,_,_,_,h=>h.elim
 | .row _ _ _,_,_,_,h=>h.elim
 | .strct _,_,_,_,h=>h.elim
 | .ptr _,_,_,_,h=>h.elim
 | .pair .unit _,_,_,_,h=>h.elim
 | .pair (.row _ _ _) _,_,_,_,h=>h.elim
 | .pair (.pair _ _) _,_,_,_,h=>h.elim
 | .pair (.strct _) _,_,_,_,h=>h.elim
 | .pair (.ptr _) _,_,_,_,h=>h.elim
theorem fW {Gp:WP} {P:Program} {g:Nat} {fn:Func} {sh:Sh} {own:List Bool} {live:List (Nat×List Nat)} {pr:Option (List SV→ar→Option (sh.den×Sh.unit.den))} {args:List SV} {z:sh.den×Sh.unit.den} (hz : ∀ n,(be sh z.1 n).2=([],n))
  (hcall : ∀(w:World) (Pr:Nat→Nat→Prop) (γ:Nat→Option G) (us:List Value),Gp w (fun _=>False)→(∀ b o,Pr b o→b < w.heap.size)→bE (Ln Pr w) γ args us→Calls P g us.toArray w fun e w' => ∃ us',e = .returned (sK us')∧FA sh z.1 us'∧Below w.heap.size w w') (hst : ∀ w X,Gp w X→Gp w fun _=>False) :
  fA Gp P {g:=g,fn:=fn,sh:=sh,bx := .unit,own:=own,live:=live,prim:=pr} args [] z:=by
 intro hcanon w γ Pr us hG hI hlim N hN vs u n bs u' n' ub hm1 hm2 hub
 have hu:=hz N
 rw[show be sh z.1 N=(vs,u,n) from hm1] at hu
 obtain⟨rfl,rfl⟩:=Prod.mk.inj hu
 cases hm2
 cases hub
 refine(hcall w _ γ us (hst _ _ hG) hI.prIn hI.slots).mono ?_
 rintro e w' ⟨us',rfl,hf,hB⟩
 obtain⟨vs',hv1,hv2⟩:=uT (γ:=fun _=>none) n hf
 rw[show be sh z.1 n=(vs,[],n) from hm1] at hv1
 cases hv1
 refine⟨_,fun _=>none,Pr,rfl,⟨d7 (fun _ _ _ h=>h.elim) (fun _ _ h=>h) hv2,?_,?_,?_,?_,?_,?_,?_,?_,?_,hB.size,hB.os,hB.tape,hB.output,?_,?_,?_⟩,?_⟩
 ·intro r g h; cases h
 ·intro j t c h; simp at h
 ·intro r x h; cases h
 ·intro r r' x x' b h; cases h
 ·intro j t c b h; simp at h
 ·intro j t c b h; simp at h
 ·intro r x b h; cases h
 ·intro r x b h; cases h
 ·exact fun k hk _=>hB.block k hk
 ·exact fun b o ho=>Q8 (hI.prIn b o ho) hB.size
 ·exact fun b hb hx o ho=>ho
 ·intro b o v hv
  refine⟨hv.1,?_⟩
  rw[World.cell?_of_block (hB.block b (hI.prIn b o hv.1))]
  exact hv.2
 ·intro p hp
  cases hp
abbrev ef:=String×(Array Value→Prop)
def du (P:Program) (l:List ef):WP:=fun w X => ∀ p∈l,(∃ a,w.var? P p.1=some a∧p.2 a) ∧ ∀ g,P.globalNamed p.1=some g → ¬X g
theorem du.stable {P:Program} {l:List ef}:wF (du P l):=by
 intro w0 X w X' h k p hp
 obtain⟨⟨a,h1,h0⟩,h2⟩:=h p hp
 unfold World.var? at h1 ⊢
 cases hg:P.globalNamed p.1 with
 | none=>rw[hg] at h1; cases h1
 | some g =>
  rw[hg] at h1
  simp only[M0] at h1 ⊢
  have hlt:g < w0.heap.size:=by
   rcases Nat.lt_or_ge g w0.heap.size with h | h
   ·exact h
   ·rw[W3 h] at h1
    cases h1
  obtain⟨_,k2,k3⟩:=k g hlt (h2 g hg)
  rw[k3]
  exact⟨⟨a,h1,h0⟩,fun g' hg'=>by cases hg'; exact k2⟩
theorem du.none {P:Program} {l:List ef} {w:World} {X:Nat→Prop} (h:du P l w X):du P l w fun _=>False :=
 fun p hp=>⟨(h p hp).1,fun _ _ h=>h⟩
theorem BR {c:L9} (h:lB c=true):c.size < 4294967281 ∧ ∀(j:Nat) b,c.data.toList[j]? = some b→b.toNat < 128:=by
 unfold lB at h
 simp only[M7,M9,T1] at h
 exact⟨by omega,fun j b hj=>h.2 b (P5 hj)⟩
def pR (n:String):ef:=(n,fun a => ∃ m,a[0]? = some (.int .i64 m))
def wT (n:String):ef:=(n,fun a => ∃ tp p,a = #[.iface tp p])
theorem uU {P:Program} {l:List ef} {w:World} {n:String} {g:Nat} (h:du P l w fun _=>False) (hm:pR n∈l) (hg:P.globalNamed n=some g) : ∃ m,w.cell? ⟨g,0,Option.none⟩=some (.int .i64 m):=by
 obtain⟨⟨a,h1,m,h2⟩,_⟩:=h _ hm
 refine⟨m,?_⟩
 have:=World.var?_cell hg h1 0
 rw[this]
 exact h2
theorem Hk {P:Program} {w:World} {n:String} {g:Nat} (hg:P.globalNamed n=some g) (h : ∃ m,w.cell? ⟨g,0,Option.none⟩=some (.int .i64 m)) : ∃ a,w.var? P (pR n).1=some a∧(pR n).2 a:=by
 obtain⟨m,h⟩:=h
 unfold World.cell? at h
 split at h
 ·rename_i c t z hc
  refine⟨c,?_,m,h⟩
  show World.var? P w n=some c
  unfold World.var?
  rw[hg]
  simp only[M0,hc]
 ·cases h
end Go.Proofs.YtfffplonjaigkaaGreatDoor.Abs
