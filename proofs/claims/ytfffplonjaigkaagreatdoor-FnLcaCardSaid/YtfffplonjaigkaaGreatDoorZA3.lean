/- Regions whose operations may stand in other orders. -/
import Derived.Test.YtfffplonjaigkaaGreatDoorZA2
import Derived.LoopN
import Derived.Sort.AssemblyPlain
import Derived.Lib.BitFns
import Derived.Lib.ItoaNum
import Derived.Lib.SlTrimSet
import Derived.Lib.IndexMore
import Derived.Lib.Split
import Derived.Lib.Replace
import Derived.Lib.Join
import Derived.Lib.ParseIntB
import Derived.Lib.Strings
import Derived.Sort.Walk0
import Derived.ChangeArms
import Derived.DataReads
import Derived.WideShapes
import Derived.Carry
import Derived.OpenShut
import Derived.LaidLaws
import Derived.LaidHandle
import Derived.LaidMore
import Derived.Lib.LaidTab
import Derived.Below
set_option linter.unusedVariables false
set_option linter.unusedSimpArgs false
set_option linter.unusedSectionVars false
open Array renaming getD_eq_getD_getElem?→U4,getElem?_eq_getElem→U3,getElem?_eq_none→ad_,getElem?_eq_some_iff→T4,getElem?_toList→V4,size_push→cb_,toList_inj→X9
open Bool renaming and_eq_true→P8,not_eq_true'→Z1,not_true→S1,or_eq_false_iff→au_
open ByteArray renaming toList→P2
open Go.Result renaming andThen_ok→Q4
open Go.Sem renaming run_bind→R3,run_pure→R9
open Int renaming toNat→S6
open List renaming all_eq_true→W6,append_nil→T8,eq_nil_of_length_eq_zero→T9,foldl_cons→Z5,getElem?_append_left→U2,getElem?_append_right→V8,getElem?_eq_getElem→Q7,getElem?_eq_some_iff→Q9,getElem_of_mem→X0,length_append→P6,length_cons→Q1,map_cons→V6,mem_append_left→X7,mem_append_right→X2,mem_append→T6,mem_cons_of_mem→Q5,mem_cons→R4,mem_map_of_mem→Z3,mem_of_getElem?→T2,mem_singleton→R7,nodup_cons→ah_,pairwise_cons→S5,pairwise_map→Z2,prefix_rfl→bi_,range→Y0,replicate→T1
open List.cons renaming inj→be_
open Nat renaming add_assoc→W5,add_sub_cancel_left→bb_,add_zero→Y2,beq→U6,eq_of_beq_eq_true→T0,le_refl→Q6,le_trans→T5,lt_of_lt_of_le→U7,zero_add→V7,zero_le→Y6
open Option renaming bind_eq_some_iff→P7,bind_some→P1,getD_some→W2
open Option.some renaming injEq→R8,inj→U9
open _root_ renaming ByteArray→P0,absurd→S0,congrArg→Q3,decide_eq_true_eq→Q0,if_neg→P4,if_pos→P5,of_decide_eq_true→U8
namespace Go.Proofs.YtfffplonjaigkaaGreatDoor.Abs
open Go Go.RowKit
theorem ME {s:Nat} {e:Nat} {b:Nat} {a:Nat}:(s ||| 2 ^ e ||| b).testBit a=(s.testBit a || decide (e=a) || b.testBit a):=by
 simp[Nat.testBit_or,Nat.testBit_two_pow]
theorem Bo (g:Nat→Nat) (a:Nat) : ∀(l:List Edge) (s:Nat),(l.foldl (fun s e=>if Region.binds .any e then s ||| 2 ^ e.on ||| g e.on else s) s).testBit a=true→s.testBit a=true ∨ ∃ e∈l,Region.binds .any e=true∧(e.on=a∨(g e.on).testBit a=true)
 | [],s,h => .inl h
 | e :: l,s,h=>by
  rw[Z5] at h
  rcases Bo g a l _ h with h | ⟨e',h1,h2⟩
  ·split at h
   ·rename_i hb
    rw[ME] at h
    simp only[Bool.or_eq_true,Q0] at h
    rcases h with(h | h) | h
    ·exact .inl h
    ·exact .inr ⟨e,by simp,hb,.inl h⟩
    ·exact .inr ⟨e,by simp,hb,.inr h⟩
   ·exact .inl h
  ·exact .inr ⟨e',Q5 _ h1,h2⟩
def yH (acc:Array Nat) (o:Oper):Nat:=o.after.foldl (fun s e=>if Region.binds .any e then s ||| 2 ^ e.on ||| acc.getD e.on 0 else s) 0
theorem wN : ∀(l:List Oper) (acc:Array Nat),let r:=l.foldl (fun acc o=>acc.push (yH acc o)) acc
  r.size=acc.size+l.length∧(∀ k,k < acc.size→r[k]? = acc[k]?) ∧ ∀ k o,l[k]? = some o → ∃ acc',(∀ j,j < acc.size+k→acc'[j]? = r[j]?)∧acc'.size=acc.size+k∧r[acc.size+k]? = some (yH acc' o)
 | [],acc=>⟨by simp,fun k _=>rfl,fun k o h=>by simp at h⟩
 | o :: l,acc=>by
  obtain⟨h1,h2,h3⟩:=wN l (acc.push (yH acc o))
  refine⟨by simp only[Z5,h1,cb_,Q1]; omega,fun k hk => ?_,fun k o' hk => ?_⟩
  ·rw[Z5,h2 k (by rw[cb_]; omega),Array.getElem?_push_lt hk,U3 hk]
  ·rw[Z5]
   cases k with
   | zero =>
    simp at hk
    subst hk
    refine⟨acc,fun j hj => ?_,rfl,?_⟩
    ·rw[h2 j (by rw[cb_]; omega),Array.getElem?_push_lt (by omega),U3 (by omega)]
    ·rw[h2 (acc.size+0) (by rw[cb_]; omega)]
     simp
   | succ k =>
    obtain⟨acc',h4,h5,h6⟩:=h3 k o' (by simpa using hk)
    rw[cb_] at h4 h5 h6
    refine⟨acc',fun j hj=>h4 j (by omega),by omega,?_⟩
    rw[show acc.size+(k+1)=acc.size+1+k by omega]
    exact h6
theorem Jj {all:Array Oper} {a b:Nat} (h:((Region.before all).getD b 0).testBit a=true) : ∃ o,all[b]? = some o ∧ ∃ e∈o.after,Region.binds .any e=true∧(e.on=a∨(e.on < b∧((Region.before all).getD e.on 0).testBit a=true)):=by
 have hb:Region.before all=all.toList.foldl (fun acc o=>acc.push (yH acc o)) #[]:=by
  unfold Region.before
  rw[←Array.foldl_toList]
  rfl
 obtain⟨h1,_,h3⟩:=wN all.toList #[]
 rw[←hb] at h1 h3
 have hlt:b < all.size:=by
  rcases Nat.lt_or_ge b all.size with h' | h'
  ·exact h'
  ·have:(Region.before all)[b]? = none:=ad_ (by rw[h1]; simpa using h')
   rw[U4,this] at h
   simp at h
 obtain⟨acc',h4,h5,h6⟩:=h3 b all[b] (by rw[V4]; exact U3 hlt)
 simp only[Array.size_empty,V7] at h4 h5 h6
 refine⟨all[b],U3 hlt,?_⟩
 rw[U4,h6,W2] at h
 unfold yH at h
 rw[←Array.foldl_toList] at h
 rcases Bo (fun n=>acc'.getD n 0) a _ 0 h with h | ⟨e,h7,h8,h9⟩
 ·simp at h
 ·refine⟨e,by simpa using h7,h8,?_⟩
  rcases h9 with h9 | h9
  ·exact .inl h9
  ·right
   by_cases he:e.on < b
   ·refine⟨he,?_⟩
    rw[U4,←h4 e.on he,←U4]
    exact h9
   ·rw[U4,ad_ (by omega)] at h9
    simp at h9
theorem Bp {all:Array Oper} {S:Nat→Prop} (hS : ∀ b o,S b→all[b]? = some o → ∀ e∈o.after,Region.binds .any e=true→S e.on) : ∀(b a:Nat),(∀ o,all[b]? = some o → ∀ e∈o.after,Region.binds .any e=true→S e.on)→((Region.before all).getD b 0).testBit a=true→S a:=by
 intro b
 induction b using Nat.strongRecOn with
 | _ b ih =>
  intro a hb h
  obtain⟨o,ho,e,he,hbd,h | ⟨hlt,h⟩⟩:=Jj h
  ·rw[←h]
   exact hb o ho e he hbd
  ·have hse:=hb o ho e he hbd
   exact ih e.on hlt a (fun o' ho' e' he' hb'=>hS e.on o' hse ho' e' he' hb') h
structure Tr where
 i:Nat
 o:Oper
 v:SV
 u:Up
 see:List Nat
 ran:Bool
def hZ (τ:Tr):ur:={i:=τ.i,see:=τ.see,turn:=τ.u.map (·.1)}
def fp (S:Nat→Bool):List Tr→List SV→List SV
 | [],sl=>sl
 | τ :: T,sl=>fp S T (if S τ.i=true then jm sl τ.o.dst τ.v else sl)
def gb (S:Nat→Bool):List Tr→(Nat→Option aN)→Nat→Option aN
 | [],g=>g
 | τ :: T,g=>gb S T (if S τ.i=true then be g τ.u else g)
theorem xt {S:Nat→Bool} : ∀ {T:List Tr} {sl:List SV},(∀ τ∈T,S τ.i=false)→fp S T sl=sl
 | [],_,_=>rfl
 | τ :: T,sl,h=>by
  unfold fp
  rw[P4 (by rw[h τ (by simp)]; simp)]
  exact xt fun τ hτ=>h τ (Q5 _ hτ)
theorem xu {S:Nat→Bool} : ∀ {T:List Tr} {g:Nat→Option aN},(∀ τ∈T,S τ.i=false)→gb S T g=g
 | [],_,_=>rfl
 | τ :: T,g,h=>by
  unfold gb
  rw[P4 (by rw[h τ (by simp)]; simp)]
  exact xu fun τ hτ=>h τ (Q5 _ hτ)
theorem uD {S S':Nat→Bool} : ∀ {T:List Tr} {sl:List SV},(∀ τ∈T,S τ.i=S' τ.i)→fp S T sl=fp S' T sl
 | [],_,_=>rfl
 | τ :: T,sl,h=>by
  unfold fp
  rw[h τ (by simp)]
  exact uD fun τ hτ=>h τ (Q5 _ hτ)
theorem uE {S S':Nat→Bool} : ∀ {T:List Tr} {g:Nat→Option aN},(∀ τ∈T,S τ.i=S' τ.i)→gb S T g=gb S' T g
 | [],_,_=>rfl
 | τ :: T,g,h=>by
  unfold gb
  rw[h τ (by simp)]
  exact uE fun τ hτ=>h τ (Q5 _ hτ)
theorem wO : ∀(l:List SV) (d:Nat) (v:SV),(cx l d v).length=l.length
 | [],_,_=>rfl
 | x :: l,0,v=>rfl
 | x :: l,d+1,v=>by simp[cx,wO l d v]
theorem Dk : ∀(l:List SV) (d t:Nat) (v:SV),d≠t→ey (cx l d v) t=ey l t
 | [],_,_,_,_=>rfl
 | x :: l,0,0,v,h=>S0 rfl h
 | x :: l,0,t+1,v,h=>rfl
 | x :: l,d+1,0,v,h=>rfl
 | x :: l,d+1,t+1,v,h=>Dk l d t v (fun e=>h (by rw[e]))
theorem Bq : ∀(l l':List SV) (d:Nat) (v:SV),l.length=l'.length→ey (cx l d v) d=ey (cx l' d v) d
 | [],[],_,_,_=>rfl
 | [],_ :: _,_,_,h=>by simp at h
 | _ :: _,[],_,_,h=>by simp at h
 | x :: l,y :: l',0,v,h=>rfl
 | x :: l,y :: l',d+1,v,h=>Bq l l' d v (by simpa using h)
theorem Dl : ∀(l:List SV) (d e:Nat) (v u:SV),d≠e→cx (cx l d v) e u=cx (cx l e u) d v
 | [],_,_,_,_,_=>rfl
 | x :: l,0,0,v,u,h=>S0 rfl h
 | x :: l,0,e+1,v,u,h=>rfl
 | x :: l,d+1,0,v,u,h=>rfl
 | x :: l,d+1,e+1,v,u,h=>Q3 (x :: ·) (Dl l d e v u (fun hh=>h (by rw[hh])))
theorem yI {S S':Nat→Bool} {t:Nat} : ∀ {T:List Tr} {sl sl':List SV},(∀ τ∈T,τ.o.dst=some t→S τ.i=S' τ.i)→sl.length=sl'.length→ey sl t=ey sl' t→ey (fp S T sl) t=ey (fp S' T sl') t
 | [],_,_,_,_,h=>h
 | τ :: T,sl,sl',hT,hl,hs=>by
  unfold fp
  refine yI (fun τ hτ=>hT τ (Q5 _ hτ)) ?_ ?_
  ·have : ∀(S:Nat→Bool) (sl:List SV),(if S τ.i=true then jm sl τ.o.dst τ.v else sl).length=sl.length:=by
    intro S sl
    split
    ·unfold jm
     split
     ·exact wO _ _ _
     ·rfl
    ·rfl
   rw[this,this,hl]
  ·by_cases hd:τ.o.dst=some t
   ·rw[hT τ (by simp) hd]
    split
    ·rw[hd]
     exact Bq _ _ _ _ hl
    ·exact hs
   ·have : ∀(S:Nat→Bool) (sl:List SV),ey (if S τ.i=true then jm sl τ.o.dst τ.v else sl) t=ey sl t:=by
     intro S sl
     split
     ·unfold jm
      split
      ·rename_i d hdd
       exact Dk _ _ _ _ (fun e=>hd (by rw[hdd,e]))
      ·rfl
     ·rfl
    rw[this,this,hs]
theorem kt {u:Up} {r:Nat} : ∀ {g g':Nat→Option aN},(g r=g' r→be g u r=be g' u r)∧(r ∉ u.map (·.1)→be g u r=g r):=by
 induction u with
 | nil=>exact fun {g g'}=>⟨fun h=>h,fun _=>rfl⟩
 | cons p u ih =>
  intro g g'
  obtain⟨k,x⟩:=p
  constructor
  ·intro h
   refine(ih (g:=fun s=>if s=k then x else g s) (g':=fun s=>if s=k then x else g' s)).1 ?_
   by_cases hk:r=k
   ·rw[P5 hk,P5 hk]
   ·rw[P4 hk,P4 hk,h]
  ·intro h
   rw[V6,R4] at h
   show be (fun s=>if s=k then x else g s) u r=g r
   rw[(ih (g:=fun s=>if s=k then x else g s) (g':=g)).2 (fun hh=>h (.inr hh)),P4 (fun e=>h (.inl e))]
theorem Dn {S S':Nat→Bool} {r:Nat} : ∀ {T:List Tr} {g g':Nat→Option aN},(∀ τ∈T,r∈τ.u.map (·.1)→S τ.i=S' τ.i)→g r=g' r→gb S T g r=gb S' T g' r
 | [],_,_,_,h=>h
 | τ :: T,g,g',hT,hs=>by
  unfold gb
  refine Dn (fun τ hτ=>hT τ (Q5 _ hτ)) ?_
  by_cases hd:r∈τ.u.map (·.1)
  ·rw[hT τ (by simp) hd]
   split
   ·exact kt.1 hs
   ·exact hs
  ·have : ∀(S:Nat→Bool) (g:Nat→Option aN),(if S τ.i=true then be g τ.u else g) r=g r:=by
    intro S g
    split
    ·exact(kt (g':=g)).2 hd
    ·rfl
   rw[this,this,hs]
theorem Jk {sl:List SV} {d e:Option Nat} {v u:SV} (h : ∀ t,d=some t→e≠some t):jm (jm sl d v) e u=jm (jm sl e u) d v:=by
 cases d with
 | none=>cases e <;> rfl
 | some d=>cases e with
  | none=>rfl
  | some e=>exact Dl sl d e v u (fun hh=>h d rfl (by rw[hh]))
theorem Jl {g:Nat→Option aN} {u u':Up} (h : ∀ r,r∈u.map (·.1)→r ∉ u'.map (·.1)):be (be g u) u'=be (be g u') u:=by
 funext r
 by_cases h1:r∈u.map (·.1)
 ·rw[(kt (g':=g)).2 (h r h1)]
  exact kt.1 (((kt (g':=g)).2 (h r h1)).symm)
 ·rw[(kt (u:=u) (g':=g)).2 h1]
  exact kt.1 ((kt (u:=u) (g':=g)).2 h1)
theorem yJ {S:Nat→Bool} {τ:Tr} (hS:S τ.i=false) : ∀ {T:List Tr} {sl:List SV},τ∈T→(T.map (·.i)).Nodup→(∀ τ'∈T,S τ'.i=true→τ.i < τ'.i → ∀ t,τ.o.dst=some t→τ'.o.dst≠some t)→T.Pairwise (fun x y=>x.i < y.i) →
  fp (fun j=>S j || j == τ.i) T sl=jm (fp S T sl) τ.o.dst τ.v
 | [],_,h,_,_,_=>by simp at h
 | τ0 :: T,sl,hm,hnd,hc,hp=>by
  rw[V6,ah_] at hnd
  rw[S5] at hp
  unfold fp
  rcases R4.1 hm with rfl | hm'
  ·have e1 : ∀ τ'∈T,(S τ'.i || τ'.i == τ.i)=S τ'.i:=fun τ' hτ'=>by
    have:τ'.i≠τ.i:=fun e=>hnd.1 (by rw[←e]; exact Z3 (f:=(·.i)) hτ')
    simp[this]
   rw[uD e1,P5 (by simp),P4 (by rw[hS]; simp)]
   have key : ∀(T:List Tr) (sl:List SV),(∀ τ'∈T,S τ'.i=true → ∀ t,τ.o.dst=some t→τ'.o.dst≠some t)→fp S T (jm sl τ.o.dst τ.v)=jm (fp S T sl) τ.o.dst τ.v:=by
    intro T
    induction T with
    | nil=>intro sl _; rfl
    | cons τ' T ih =>
     intro sl h
     unfold fp
     split
     ·rename_i hs
      rw[Jk (h τ' (by simp) hs)]
      exact ih _ (fun τ hτ=>h τ (Q5 _ hτ))
     ·exact ih _ (fun τ hτ=>h τ (Q5 _ hτ))
   exact key T sl (fun τ' hτ' hs=>hc τ' (Q5 _ hτ') hs (hp.1 τ' hτ'))
  ·have hne:τ0.i≠τ.i:=fun e=>hnd.1 (by rw[e]; exact Z3 (f:=(·.i)) hm')
   have:(S τ0.i || τ0.i == τ.i)=S τ0.i:=by simp[hne]
   rw[this]
   exact yJ hS hm' hnd.2 (fun τ' hτ'=>hc τ' (Q5 _ hτ')) hp.2
theorem yK {S:Nat→Bool} {τ:Tr} (hS:S τ.i=false) : ∀ {T:List Tr} {g:Nat→Option aN},τ∈T→(T.map (·.i)).Nodup→(∀ τ'∈T,S τ'.i=true→τ.i < τ'.i → ∀ r,r∈τ.u.map (·.1)→r ∉ τ'.u.map (·.1))→T.Pairwise (fun x y=>x.i < y.i) →
  gb (fun j=>S j || j == τ.i) T g=be (gb S T g) τ.u
 | [],_,h,_,_,_=>by simp at h
 | τ0 :: T,g,hm,hnd,hc,hp=>by
  rw[V6,ah_] at hnd
  rw[S5] at hp
  unfold gb
  rcases R4.1 hm with rfl | hm'
  ·have e1 : ∀ τ'∈T,(S τ'.i || τ'.i == τ.i)=S τ'.i:=fun τ' hτ'=>by
    have:τ'.i≠τ.i:=fun e=>hnd.1 (by rw[←e]; exact Z3 (f:=(·.i)) hτ')
    simp[this]
   rw[uE e1,P5 (by simp),P4 (by rw[hS]; simp)]
   have key : ∀(T:List Tr) (g:Nat→Option aN),(∀ τ'∈T,S τ'.i=true → ∀ r,r∈τ.u.map (·.1)→r ∉ τ'.u.map (·.1))→gb S T (be g τ.u)=be (gb S T g) τ.u:=by
    intro T
    induction T with
    | nil=>intro g _; rfl
    | cons τ' T ih =>
     intro g h
     unfold gb
     split
     ·rename_i hs
      rw[Jl (h τ' (by simp) hs)]
      exact ih _ (fun τ hτ=>h τ (Q5 _ hτ))
     ·exact ih _ (fun τ hτ=>h τ (Q5 _ hτ))
   exact key T g (fun τ' hτ' hs=>hc τ' (Q5 _ hτ') hs (hp.1 τ' hτ'))
  ·have hne:τ0.i≠τ.i:=fun e=>hnd.1 (by rw[e]; exact Z3 (f:=(·.i)) hm')
   have:(S τ0.i || τ0.i == τ.i)=S τ0.i:=by simp[hne]
   rw[this]
   exact yK hS hm' hnd.2 (fun τ' hτ'=>hc τ' (Q5 _ hτ')) hp.2
section
variable {P:Program} {E:bZ} {call:(I:am)→List SV→az→Option (I.sh.den×I.bx.den)} {w0:World} {X:Nat→Prop} {Pr0:Nat→Nat→Prop}
variable {R:Type} {K:St→Option R} {z:R}
def Lg (E:bZ) (call:(I:am)→List SV→az→Option (I.sh.den×I.bx.den)) (all:Array Oper) (base:Nat) (τ:Tr) (sl:List SV) (g:Nat→Option aN):Prop :=
 eV all τ.o sl τ.ran∧(τ.ran=true → ∃ res,b7 E call τ.o ((cK τ.o.op).map (ev sl)) res (base+64*τ.i) bX=some (τ.v,τ.u) ∧ ∀ r x,ap res r=some x→r∈τ.see∧g r=some x)∧(τ.ran=false→τ.v = .tup []∧τ.u=[])
theorem Dp {all:Array Oper} {base:Nat} : ∀ {l:List (Nat×Oper)} {g:List ur} {σ:St},ca E call all true base l g σ K=some z→(l.map (·.1)).Pairwise (· < ·) →
  ∃(T:List Tr) (σ':St),T.map (fun τ=>(τ.i,τ.o))=l∧(∀ τ∈T,Lg E call all base τ (fp (fun j=>decide (j < τ.i)) T σ.slots) (gb (fun j=>decide (j < τ.i)) T (ap σ.res)))∧σ'.slots=fp (fun _=>true) T σ.slots∧ap σ'.res=gb (fun _=>true) T (ap σ.res) ∧
   σ'.n0=σ.n0∧σ'.nx=σ.nx∧K σ'=some z∧vZ all (Region.before all) ((T.map hZ).reverse++g)=true∧Al all=true
 | [],g,σ,h,_=>by
  unfold ca at h
  simp only at h
  split at h
  ·rename_i h1 h2
   exact⟨[],σ,rfl,fun τ hτ=>by simp at hτ,rfl,rfl,rfl,rfl,h,h1,h2⟩
  ·cases h
 | (i,o) :: l,g,σ,h,hp=>by
  obtain⟨ran,v,u,see,hg,hran,hskip,hrest⟩:=wM h
  rw[V6,S5] at hp
  obtain⟨T,σ',h1,h2,h3,h4,h5,h6,h7,h8,h9⟩:=Dp hrest hp.2
  have hT : ∀ τ∈T,i < τ.i:=by
   intro τ hτ
   have:(τ.i,τ.o)∈l:=by
    rw[←h1]
    exact Z3 (f:=fun τ:Tr=>(τ.i,τ.o)) hτ
   exact hp.1 _ (Z3 (f:=(·.1)) this)
  have hres:ap (jX σ o.dst v u).res=be (ap σ.res) u:=mo
  refine⟨⟨i,o,v,u,see,ran⟩ :: T,σ',by rw[V6,h1],?_,?_,?_,h5,h6,h7,?_,h9⟩
  ·intro τ hτ
   rcases R4.1 hτ with rfl | hτ
   ·have hno : ∀ τ'∈T,decide (τ'.i < i)=false:=fun τ' hτ'=>by
     have:=hT τ' hτ'
     simp
     omega
    have e1:fp (fun j=>decide (j < i)) (⟨i,o,v,u,see,ran⟩ :: T) σ.slots=σ.slots:=by
     unfold fp
     rw[P4 (by simp)]
     exact xt hno
    have e2:gb (fun j=>decide (j < i)) (⟨i,o,v,u,see,ran⟩ :: T) (ap σ.res)=ap σ.res:=by
     unfold gb
     rw[P4 (by simp)]
     exact xu hno
    show Lg E call all base ⟨i,o,v,u,see,ran⟩ (fp (fun j=>decide (j < i)) (⟨i,o,v,u,see,ran⟩ :: T) σ.slots) (gb (fun j=>decide (j < i)) (⟨i,o,v,u,see,ran⟩ :: T) (ap σ.res))
    rw[e1,e2]
    exact⟨hg,fun hr=>⟨_,(hran hr).1,fun r x hx=>kW hx⟩,hskip⟩
   ·have hlt:=hT τ hτ
    have:=h2 τ hτ
    rw[sy,hres] at this
    unfold fp gb
    rw[P5 (by simp[hlt]),P5 (by simp[hlt])]
    exact this
  ·rw[h3,sy]
   rfl
  ·rw[h4,hres]
   rfl
  ·rw[V6,List.reverse_cons,List.append_assoc]
   exact h8
theorem Dq {all:Array Oper} {bf:Array Nat} : ∀ {L:List ur},vZ all bf L=true→L.Pairwise fun b a=>pO all a b=true→(bf.getD b.i 0).testBit a.i=true
 | [],_ => .nil
 | b :: L,h=>by
  simp only[vZ,P8,W6] at h
  refine S5.2 ⟨fun a ha hc => ?_,Dq h.2⟩
  have:=h.1 a ha
  rw[hc] at this
  simpa using this
theorem lS {l m:List Nat} {r:Nat} (h1:r∈l) (h2:r∈m):gA l m=true:=by
 unfold gA
 rw[List.any_eq_true]
 refine⟨r,h1,?_⟩
 cases hh:sf m r with
 | true=>rfl
 | false=>exact S0 h2 (re hh)
theorem Lh {sl sl':List SV} {x:Operand} (h : ∀ t,x = .tmp t→ey sl t=ey sl' t):ev sl x=ev sl' x:=by
 cases x with
 | tmp t=>exact h t rfl
 | _=>rfl
theorem Hs {o:Oper} {t:Nat} (h:Operand.tmp t∈cK o.op):t∈IZ o:=List.mem_filterMap.2 ⟨_,h,rfl⟩
theorem Br {α:Type} {p q:α→Bool} : ∀ {l:List α},(∀ x∈l,q x=true→p x=true)→(∃ x∈l,p x=true∧q x=false)→(l.filter q).length < (l.filter p).length
 | [],_,h=>by
  obtain⟨x,hx,_⟩:=h
  simp at hx
 | a :: l,hq,⟨x,hx,h1,h2⟩=>by
  have hle : ∀ l:List α,(∀ x∈l,q x=true→p x=true)→(l.filter q).length≤(l.filter p).length:=by
   intro l
   induction l with
   | nil=>intro _; simp
   | cons a l ih =>
    intro h
    have:=ih (fun x hx=>h x (Q5 _ hx))
    simp only[List.filter_cons]
    by_cases ha:q a=true
    ·rw[P5 ha,P5 (h a (by simp) ha)]
     simpa using this
    ·rw[P4 ha]
     split
     ·simp only[Q1]; omega
     ·exact this
  have hl:=hle l (fun x hx=>hq x (Q5 _ hx))
  simp only[List.filter_cons]
  rcases R4.1 hx with rfl | hx
  ·rw[P4 (by rw[h2]; simp),P5 h1]
   simp only[Q1]
   omega
  ·have:=Br (l:=l) (fun x hx=>hq x (Q5 _ hx)) ⟨x,hx,h1,h2⟩
   by_cases ha:q a=true
   ·rw[P5 ha,P5 (hq a (by simp) ha)]
    simpa using this
   ·rw[P4 ha]
    split
    ·simp only[Q1]; omega
    ·exact this
structure O8 (all:Array Oper) (base:Nat) (T:List Tr) (σ:St) (γ0:Nat→Option G) (listed:Array Bool) (w0:World) (X:Nat→Prop) (Pr0:Nat→Nat→Prop) (γ:Nat→Option G) (Pr:Nat→Nat→Prop) (a:Act) (w:World):Prop where
 size:listed.size=all.size
 closed : ∀ b o,listed.getD b false=true→all[b]? = some o → ∀ e∈o.after,Region.binds .any e=true→listed.getD e.on false=true
 inv:bc w0 X Pr0 (fp (fun j=>listed.getD j false) T σ.slots) (gb (fun j=>listed.getD j false) T (ap σ.res)) γ Pr a w
 low : ∀ r,r < base→γ r=γ0 r
 free : ∀ i,listed.getD i false=false → ∀ r,base+64*i≤r→r < base+64*i+64→γ r=none
theorem Gx {all:Array Oper} {base:Nat} {Q:Exit→Act→World→Prop} (hS:gC (jJ w0 X) P E call) (hE:dI P E) {γ0:Nat→Option G} {σ:St} {T:List Tr} (hT:T.map (fun τ=>(τ.i,τ.o))=(Y0 all.size).zip all.toList)
  (hok : ∀ τ∈T,Lg E call all base τ (fp (fun j=>decide (j < τ.i)) T σ.slots) (gb (fun j=>decide (j < τ.i)) T (ap σ.res))) (hord:vZ all (Region.before all) (T.map hZ).reverse=true) (hedge:Al all=true)
  (hQ : ∀ γ' Pr' a' w',bc w0 X Pr0 (fp (fun _=>true) T σ.slots) (gb (fun _=>true) T (ap σ.res)) γ' Pr' a' w'→(∀ r,r < base→γ' r=γ0 r)→(∀ r,base+64*all.size≤r→γ' r=none)→Q .normal a' w') :
  ∀(fuel:Nat) (listed:Array Bool) (γ:Nat→Option G) (Pr:Nat→Nat→Prop) (a:Act) (w:World),O8 all base T σ γ0 listed w0 X Pr0 γ Pr a w→((Y0 all.size).filter fun j => !listed.getD j false).length≤fuel→wpAny P .any all Q fuel listed a w:=by
 have hTi:T.map (·.i)=Y0 all.size:=by
  have:=Q3 (List.map (·.1)) hT
  rw[List.map_map,(range_zip' all).2] at this
  exact this
 have hTo : ∀ τ∈T,all[τ.i]? = some τ.o:=by
  intro τ hτ
  have:(τ.i,τ.o)∈(Y0 all.size).zip all.toList:=by
   rw[←hT]
   exact Z3 (f:=fun τ:Tr=>(τ.i,τ.o)) hτ
  exact(range_zip' all).1 _ this
 have hnd:(T.map (·.i)).Nodup:=by rw[hTi]; exact List.nodup_range
 have hpw:T.Pairwise fun x y=>x.i < y.i:=by
  have:(T.map (·.i)).Pairwise (· < ·):=by rw[hTi]; exact List.pairwise_lt_range
  exact Z2.1 this
 have hlt : ∀ τ∈T,τ.i < all.size:=fun τ hτ=>(T4.1 (hTo τ hτ)).1
 have hall : ∀ i,i < all.size → ∃ τ∈T,τ.i=i:=by
  intro i hi
  have:i∈T.map (·.i):=by rw[hTi]; exact List.mem_range.2 hi
  obtain⟨τ,h1,h2⟩:=List.mem_map.1 this
  exact⟨τ,h1,h2⟩
 have hcl : ∀ τ∈T,∀ τ'∈T,τ.i < τ'.i→pO all (hZ τ) (hZ τ')=true→((Region.before all).getD τ'.i 0).testBit τ.i=true:=by
  have h1:=Dq hord
  rw[List.pairwise_reverse,Z2] at h1
  have h2:T.Pairwise fun x y=>x.i < y.i→pO all (hZ x) (hZ y)=true→((Region.before all).getD y.i 0).testBit x.i=true:=h1.imp fun h _ hc=>h hc
  intro τ hτ τ' hτ'
  by_cases he:τ=τ'
  ·subst he
   intro h
   omega
  ·rcases pair_of hpw h2 hτ hτ' he with h | ⟨h3,_⟩
   ·exact h
   ·intro h
    omega
 have hdone : ∀(listed:Array Bool) (γ:Nat→Option G) (Pr:Nat→Nat→Prop) (a:Act) (w:World),O8 all base T σ γ0 listed w0 X Pr0 γ Pr a w→(∀ j,j < all.size→listed.getD j false=true)→Q .normal a w:=by
  intro listed γ Pr a w hM hl
  have e : ∀ τ∈T,listed.getD τ.i false=true:=fun τ hτ=>hl _ (hlt τ hτ)
  have h1:=hM.inv
  rw[uD (S':=fun _=>true) e,uE (S':=fun _=>true) e] at h1
  refine hQ γ Pr a w h1 hM.low fun r hr => ?_
  have hge:all.size≤(r - base) / 64:=(Nat.le_div_iff_mul_le (by omega)).2 (by omega)
  have hun:listed.getD ((r - base) / 64) false=false:=by
   rw[U4,ad_ (by rw[hM.size]; exact hge)]
   rfl
  have hdm:=Nat.div_add_mod (r - base) 64
  have hml:=Nat.mod_lt (r - base) (show 0 < 64 by omega)
  exact hM.free _ hun r (by omega) (by omega)
 have hback : ∀(j:Nat) (o:Oper),all[j]? = some o → ∀ e∈o.after,Region.binds .any e=true→e.on < j:=by
  intro j o ho e he hb
  have hj:j < all.size:=(T4.1 ho).1
  have:=(W6.1 hedge) j (List.mem_range.2 hj)
  rw[ho] at this
  have:=(Array.all_eq_true_iff_forall_mem.1 this) e he
  rw[hb] at this
  simpa[Nat.blt_eq] using this
 intro fuel
 induction fuel with
 | zero =>
  intro listed γ Pr a w hM hf
  have hl : ∀ j,j < all.size→listed.getD j false=true:=by
   intro j hj
   cases hh:listed.getD j false with
   | true=>rfl
   | false =>
    have hmem:j∈(Y0 all.size).filter fun j => !listed.getD j false:=List.mem_filter.2 ⟨List.mem_range.2 hj,by rw[hh]; rfl⟩
    rw[T9 (Nat.le_zero.1 hf)] at hmem
    simp at hmem
  refine⟨?_,hdone listed γ Pr a w hM hl⟩
  apply List.eq_nil_iff_forall_not_mem.2
  intro j hj
  obtain⟨h1,o,ho,_⟩:=mem_ready.1 hj
  have hjl:j < all.size:=(T4.1 ho).1
  have:=hl j hjl
  rw[U4,U3 (by rw[hM.size]; exact hjl)] at this h1
  simp only[W2] at this h1
  rw[this] at h1
  cases h1
 | succ fuel ih =>
  intro listed γ Pr a w hM hf
  have hgetD : ∀ j,j < all.size→listed.getD j true=listed.getD j false:=by
   intro j hj
   rw[U4,U4,U3 (by rw[hM.size]; exact hj)]
   rfl
  refine⟨fun hr=>hdone listed γ Pr a w hM ?_,fun i hi => ?_⟩
  ·intro j
   induction j using Nat.strongRecOn with
   | _ j ihj =>
    intro hj
    cases hh:listed.getD j false with
    | true=>rfl
    | false =>
     have:j∈Region.ready .any all listed:=mem_ready.2 ⟨by rw[hgetD j hj,hh],all[j],U3 hj,fun e he hb=>by
      have hlt':=hback j _ (U3 hj) e he hb
      exact ihj e.on hlt' (by omega)⟩
     rw[hr] at this
     simp at this
  ·obtain⟨h1,o,ho,hpre⟩:=mem_ready.1 hi
   have hil:i < all.size:=(T4.1 ho).1
   obtain⟨τ,hτ,rfl⟩:=hall i hil
   have hoτ:=hTo τ hτ
   rw[ho] at hoτ
   cases hoτ
   have hSi:listed.getD τ.i false=false:=by rw[←hgetD _ hil]; exact h1
   have hpast : ∀ τ'∈T,τ'.i < τ.i→pO all (hZ τ') (hZ τ)=true→listed.getD τ'.i false=true:=by
    intro τ' hτ' hl hc
    exact Bp (S:=fun j=>listed.getD j false=true) hM.closed τ.i τ'.i (fun o' ho' e he hb=>by
     rw[ho] at ho'
     cases ho'
     exact hpre e he hb) (hcl τ' hτ' τ hτ hl hc)
   have hnext : ∀ τ'∈T,τ.i < τ'.i→pO all (hZ τ) (hZ τ')=true→listed.getD τ'.i false=false:=by
    intro τ' hτ' hl hc
    cases hh:listed.getD τ'.i false with
    | false=>rfl
    | true =>
     have:=Bp (S:=fun j=>listed.getD j false=true) hM.closed τ'.i τ.i (fun o' ho' e he hb=>hM.closed τ'.i o' hh ho' e he hb) (hcl τ hτ τ' hτ' hl hc)
     simp only[hSi] at this
     cases this
   have hclash : ∀(x y:Tr),x∈T→y∈T→pO all (hZ x) (hZ y)=(gA x.o.dst.toList (y.o.dst.toList++iM all y.o) || gA y.o.dst.toList (iM all x.o) || gA (x.u.map (·.1)) (y.see++y.u.map (·.1)) || gA (y.u.map (·.1)) x.see):=by
    intro x y hx hy
    unfold pO
    rw[show(hZ x).i=x.i from rfl,show(hZ y).i=y.i from rfl,hTo x hx,hTo y hy]
    rfl
   have hsl : ∀ t,t∈iM all τ.o→ey (fp (fun j=>listed.getD j false) T σ.slots) t=ey (fp (fun j=>decide (j < τ.i)) T σ.slots) t:=by
    intro t ht
    refine yI (fun τ' hτ' hd => ?_) rfl rfl
    show listed.getD τ'.i false=decide (τ'.i < τ.i)
    rcases Nat.lt_trichotomy τ'.i τ.i with h | h | h
    ·rw[hpast τ' hτ' h (by rw[hclash τ' τ hτ' hτ,hd]; simp[lS (l:=[t]) (m:=τ.o.dst.toList++iM all τ.o) (r:=t) (by simp) (X2 _ ht)])]
     simp[h]
    ·rw[h,hSi]
     simp
    ·rw[hnext τ' hτ' h (by rw[hclash τ τ' hτ hτ',hd]; simp[lS (l:=[t]) (m:=iM all τ.o) (r:=t) (by simp) ht])]
     simp
     omega
   have hgl : ∀ r,r∈τ.see→gb (fun j=>listed.getD j false) T (ap σ.res) r=gb (fun j=>decide (j < τ.i)) T (ap σ.res) r:=by
    intro r hr
    refine Dn (fun τ' hτ' hd => ?_) rfl
    show listed.getD τ'.i false=decide (τ'.i < τ.i)
    rcases Nat.lt_trichotomy τ'.i τ.i with h | h | h
    ·rw[hpast τ' hτ' h (by rw[hclash τ' τ hτ' hτ]; simp[lS (m:=τ.see++τ.u.map (·.1)) hd (X7 _ hr)])]
     simp[h]
    ·rw[h,hSi]
     simp
    ·rw[hnext τ' hτ' h (by rw[hclash τ τ' hτ hτ']; simp[lS (m:=τ.see) hd hr])]
     simp
     omega
   obtain⟨hg,hran,hskip⟩:=hok τ hτ
   have hargs:(cK τ.o.op).map (ev (fp (fun j=>listed.getD j false) T σ.slots))=(cK τ.o.op).map (ev (fp (fun j=>decide (j < τ.i)) T σ.slots)):=by
    apply List.map_congr_left
    intro x hx
    refine Lh fun t ht=>hsl t ?_
    subst ht
    exact X7 _ (Hs hx)
   have hg':eV all τ.o (fp (fun j=>listed.getD j false) T σ.slots) τ.ran:=by
    unfold eV at hg ⊢
    split at hg
    ·exact hg
    ·rename_i j want hgd
     obtain⟨d,h2,h3⟩:=hg
     refine⟨d,h2,?_⟩
     rw[hsl d ?_]
     ·exact h3
     ·unfold iM
      rw[hgd]
      refine X2 _ ?_
      simp only[h2]
      simp
   obtain⟨res,hcore,hknow⟩ : ∃ res,(τ.ran=true→b7 E call τ.o ((cK τ.o.op).map (ev (fp (fun j=>listed.getD j false) T σ.slots))) res (base+64*τ.i) bX=some (τ.v,τ.u)) ∧ ∀ r x,ap res r=some x→gb (fun j=>listed.getD j false) T (ap σ.res) r=some x:=by
    cases hr:τ.ran with
    | false=>exact⟨[],fun h=>(by cases h),fun r x h=>(by simp[ap] at h)⟩
    | true =>
     obtain⟨res,h2,h3⟩:=hran hr
     refine⟨res,fun _=>by rw[hargs]; exact h2,fun r x hx => ?_⟩
     obtain⟨h4,h5⟩:=h3 r x hx
     rw[hgl r h4]
     exact h5
   refine Dj hS hE hM.inv ho hg' hcore hknow hskip (hM.free τ.i hSi) ?_
   intro a' w' γ' Pr' hI' hγ'
   have hset : ∀ j,(listed.setIfInBounds τ.i true).getD j false=(listed.getD j false || j == τ.i):=by
    intro j
    by_cases hj:τ.i=j
    ·subst hj
     have:τ.i < listed.size:=by rw[hM.size]; exact hil
     simp[this]
    ·rw[getD_set_ne false hj]
     have:(j == τ.i)=false:=by
      rw[beq_eq_false_iff_ne]
      exact fun e=>hj e.symm
     rw[this,Bool.or_false]
   refine ih (listed.setIfInBounds τ.i true) γ' Pr' a' w' ⟨?_,?_,?_,?_,?_⟩ ?_
   ·rw[Array.size_setIfInBounds]
    exact hM.size
   ·intro b o' hb ho' e he hbd
    rw[hset] at hb
    refine getD_set_true ?_
    by_cases hbi:b=τ.i
    ·subst hbi
     rw[ho] at ho'
     cases ho'
     exact hpre e he hbd
    ·have hb':listed.getD b false=true:=by simpa[hbi] using hb
     exact hM.closed b o' hb' ho' e he hbd
   ·have e1:(fun j=>(listed.setIfInBounds τ.i true).getD j false)=fun j=>listed.getD j false || j == τ.i:=funext hset
    rw[e1]
    rw[yJ (S:=fun j=>listed.getD j false) hSi hτ hnd (fun τ' hτ' hs hlt' t hd hd'=>by
     have hm1:gA (some t).toList ((some t).toList++iM all τ'.o)=true:=lS (r:=t) (by simp) (by simp)
     have:=hnext τ' hτ' hlt' (by rw[hclash τ τ' hτ hτ',hd,hd',hm1]; rfl)
     rw[this] at hs
     cases hs) hpw]
    rw[yK (S:=fun j=>listed.getD j false) hSi hτ hnd (fun τ' hτ' hs hlt' r hr hr'=>by
     have:=hnext τ' hτ' hlt' (by rw[hclash τ τ' hτ hτ']; simp[lS (m:=τ'.see++τ'.u.map (·.1)) hr (X2 _ hr')])
     rw[this] at hs
     cases hs) hpw]
    exact hI'
   ·intro r hr
    rw[hγ' r (by rintro⟨h2,_⟩; omega)]
    exact hM.low r hr
   ·intro j hj r h2 h3
    rw[hset] at hj
    simp only[au_,beq_eq_false_iff_ne] at hj
    have hne:=hj.2
    rw[hγ' r (by
     rintro⟨h4,h5⟩
     rcases Nat.lt_or_gt_of_ne hne with h | h <;> omega)]
    exact hM.free j hj.1 r h2 h3
   ·have:=Br (l:=Y0 all.size) (p:=fun j => !listed.getD j false) (q:=fun j => !(listed.setIfInBounds τ.i true).getD j false) (fun x _ hx=>by
     rw[hset] at hx
     simp only[Z1,au_] at hx ⊢
     exact hx.1) ⟨τ.i,List.mem_range.2 hil,by rw[hSi]; rfl,by rw[hset]; simp⟩
    omega
where
 range_zip' (ops:Array Oper):(∀ p∈(Y0 ops.size).zip ops.toList,ops[p.1]? = some p.2)∧((Y0 ops.size).zip ops.toList).map (·.1)=Y0 ops.size:=by
  constructor
  ·intro p hp
   obtain⟨k,hk,rfl⟩:=X0 hp
   rw[List.getElem_zip]
   simp only[List.getElem_range]
   rw[←V4]
   exact Q7 _
  ·exact List.map_fst_zip (by simp)
 pair_of {R1 R2:Tr→Tr→Prop} {T:List Tr} (h1:T.Pairwise R1) (h2:T.Pairwise R2) {x y:Tr} (hx:x∈T) (hy:y∈T) (hne:x≠y):R2 x y∨(R1 y x∧R2 y x):=by
  induction T with
  | nil=>simp at hx
  | cons t T ih =>
   rw[S5] at h1 h2
   rcases R4.1 hx with rfl | hx' <;> rcases R4.1 hy with rfl | hy'
   ·exact S0 rfl hne
   ·exact .inl (h2.1 y hy')
   ·exact .inr ⟨h1.1 x hx',h2.1 x hx'⟩
   ·exact ih h1.2 h2.2 hx' hy'
theorem Li {all:Array Oper} {id:Nat} {base:Nat} {Q:Exit→Act→World→Prop} (hm:P.follows .mixedOrders=true) (hS:gC (jJ w0 X) P E call) (hE:dI P E) {γ0:Nat→Option G}
  {σ:St} {γ:Nat→Option G} {Pr:Nat→Nat→Prop} {a:Act} {w:World} (h:ca E call all true base ((Y0 all.size).zip all.toList) [] σ K=some z)
   (hI:bc w0 X Pr0 σ.slots (ap σ.res) γ Pr a w) (hlow : ∀ r,r < base→γ r=γ0 r) (hhigh : ∀ r,base≤r→γ r=none)
   (hQ : ∀ σ' γ' Pr' a' w',K σ'=some z→bc w0 X Pr0 σ'.slots (ap σ'.res) γ' Pr' a' w'→(∀ r,r < base→γ' r=γ0 r)→(∀ r,base+64*all.size≤r→γ' r=none)→σ'.n0=σ.n0→σ'.nx=σ.nx→Q .normal a' w') :
   (Code.region id all true).wp P Q a w:=by
 obtain⟨T,σ',h1,h2,h3,h4,h5,h6,h7,h8,h9⟩:=Dp h (by rw[(Gx.range_zip' all).2]; exact List.pairwise_lt_range)
 rw[T8] at h8
 refine wp_region_any hm ?_
 have hnone : ∀ j,(Array.replicate all.size false).getD j false=false:=by
  intro j
  rw[U4]
  by_cases hj:j < all.size
  ·simp[hj]
  ·rw[ad_ (by simpa using hj)]
   rfl
 refine Gx hS hE h1 h2 h8 h9 (fun γ' Pr' a' w' hi hl hh=>hQ σ' γ' Pr' a' w' h7 (by rw[h3,h4]; exact hi) hl hh h5 h6) all.size _ γ Pr a _ ⟨by simp,?_,?_,hlow,fun i _ r hr _=>hhigh r (by omega)⟩ ?_
 ·intro b o hb
  rw[hnone] at hb
  cases hb
 ·rw[xt (fun τ _=>hnone τ.i),xu (fun τ _=>hnone τ.i)]
  exact⟨eA (fun _ _ _ h=>h) (fun _ _ h=>h) hI.slots,hI.defers,hI.gs,hI.wfs,hI.res,hI.apart,hI.loose,hI.where_,hI.frame,hI.size,hI.os,hI.tape,hI.output,hI.prIn,hI.prOld,hI.pr0⟩
 ·refine T5 (List.length_filter_le _ _) ?_
  simp
end
end Go.Proofs.YtfffplonjaigkaaGreatDoor.Abs
namespace Go.Proofs.YtfffplonjaigkaaGreatDoor.Abs
open Go Go.RowKit
theorem qp {P:Program} {c:Code} {Q Q':Exit→Act→World→Prop} (hq : ∀ e a w,Q e a w→Q' e a w) : ∀ {n m:Nat},n≤m → ∀ {a:Act} {w:World},Code.rounds P c Q n a w→Code.rounds P c Q' m a w
 | 0,_,_,_,_,h=>h.elim
 | n+1,0,hle,_,_,_=>S0 hle (by omega)
 | n+1,m+1,hle,a,w,h=>by
  refine Code.wp_mono (fun e a w h => ?_) (show c.wp P (Exit.then (Code.rounds P c Q n) Q) a w from h)
  cases e <;> first | exact qp hq (Nat.le_of_succ_le_succ hle) h | exact hq _ _ _ h
def bU (P:Program) (n:Nat):List Fr→(Exit→Act→World→Prop)→Exit→Act→World→Prop
 | [],Q=>Q
 | .seq b :: S,Q=>Exit.then (b.wp P (bU P n S Q)) (bU P n S Q)
 | .block id :: S,Q=>Exit.inBlock id (bU P n S Q)
 | .loop b :: S,Q=>Exit.then (Code.rounds P b (bU P n S Q) n) (bU P n S Q)
section
variable {P:Program} {E:bZ} {Q:Exit→Act→World→Prop}
theorem cW {n m:Nat} (h:n≤m) : ∀(S:List Fr) {e:Exit} {a:Act} {w:World},bU P n S Q e a w→bU P m S Q e a w
 | [],_,_,_,hh=>hh
 | .seq b :: S,e,a,w,hh=>by
  cases e <;> first | exact Code.wp_mono (fun _ _ _ h'=>cW h S h') hh | exact cW h S hh
 | .block id :: S,e,a,w,hh=>by
  cases e with
  | exit j =>
   show if j=id then bU P m S Q .normal a w else bU P m S Q (.exit j) a w
   have hh':if j=id then bU P n S Q .normal a w else bU P n S Q (.exit j) a w:=hh
   split at hh'
   ·rename_i hj
    rw[P5 hj]
    exact cW h S hh'
   ·rename_i hj
    rw[P4 hj]
    exact cW h S hh'
  | _=>exact cW h S hh
 | .loop b :: S,e,a,w,hh=>by
  cases e <;> first | exact qp (fun _ _ _ h'=>cW h S h') h hh | exact cW h S hh
theorem jK {n:Nat} : ∀(S:List Fr) {a:Act} {w:World},Q .ret a w→bU P n S Q .ret a w
 | [],_,_,h=>h
 | .seq b :: S,_,_,h=>jK S h
 | .block id :: S,_,_,h=>jK S h
 | .loop b :: S,_,_,h=>jK S h
theorem iV {n:Nat} {I:am} {id:Nat} : ∀(S:List Fr) {S':List Fr} {a:Act} {w:World},sj I id S=some S'→bU P n S' Q .normal a w→bU P n S Q (.exit id) a w
 | [],_,_,_,h,_=>by simp[sj] at h
 | .seq b :: S,_,_,_,h,k=>iV (I:=I) S h k
 | .loop b :: S,_,_,_,h,k=>iV (I:=I) S h k
 | .block j :: S,S',a,w,h,k=>by
  show if id=j then bU P n S Q .normal a w else bU P n S Q (.exit id) a w
  unfold sj at h
  by_cases hj:j=id
  ·subst hj
   have:U6 j j=true:=by simp
   rw[this] at h
   cases h
   rw[P5 rfl]
   exact k
  ·have:U6 j id=false:=by
    cases hb:U6 j id with
    | false=>rfl
    | true=>exact S0 (T0 hb) hj
   rw[this] at h
   rw[P4 (fun e=>hj e.symm)]
   exact iV (I:=I) S h k
end
structure At (w0:World) (X:Nat→Prop) (Pr0:Nat→Nat→Prop) (γ0:Nat→Option G) (σ:St) (γ:Nat→Option G) (Pr:Nat→Nat→Prop) (a:Act) (w:World):Prop where
 inv:bc w0 X Pr0 σ.slots (ap σ.res) γ Pr a w
 low : ∀ r,r < σ.n0→γ r=γ0 r
 high : ∀ r,σ.nx≤r→γ r=none
 le:σ.n0≤σ.nx
section
theorem Jm (r:Nat) (l:List Nat):l <+: vY r l:=by
 unfold vY
 split
 ·exact bi_
 ·exact List.prefix_append _ _
theorem mF {f:List Nat→SV→List Nat} (hf : ∀ l v,l <+: f l v) : ∀(vs:List SV) (l:List Nat),l <+: vs.foldl f l
 | [],l=>bi_
 | v :: vs,l=>(hf l v).trans (mF hf vs (f l v))
theorem mG : ∀(d:Nat) (v:SV) (l:List Nat),l <+: mj d v l
 | 0,_,_=>bi_
 | d+1,v,l=>by
  cases v <;> simp only[mj] <;> first | exact bi_ | exact Jm _ _ | exact mF (fun l v=>mG d v l) _ _
theorem kX (res:az) : ∀(d j:Nat) (l:List Nat),l <+: ol res d j l
 | 0,_,_=>bi_
 | d+1,j,l=>by
  unfold ol
  split
  ·exact bi_
  ·split
   ·exact(mG 9 _ l).trans (kX res d (j+1) _)
   ·exact(mF (fun l v=>mG 1 v l) _ l).trans (kX res d (j+1) _)
   ·exact(mF (fun l v=>mG 1 v l) _ l).trans (kX res d (j+1) _)
   ·exact kX res d (j+1) l
theorem Fv (res:az) (vs:List SV) (l:List Nat):l <+: g6 res vs l:=(mF (fun l v=>mG 9 v l) vs l).trans (kX res 40 0 _)
theorem lT : ∀ n,(kK n).length=n
 | 0=>rfl
 | n+1=>by simp[kK,lT n]
theorem Dr : ∀ {n j:Nat},j < n→(kK n)[j]? = some j
 | n+1,j,h=>by
  unfold kK
  by_cases hj:j < n
  ·rw[U2 (by rw[lT]; exact hj)]
   exact Dr hj
  ·have:j=n:=by omega
   subst this
   rw[V8 (by rw[lT]; omega),lT]
   simp
variable {w0:World} {X:Nat→Prop} {Pr0:Nat→Nat→Prop} {γ0 γ:Nat→Option G} {σ:St} {Pr:Nat→Nat→Prop} {a:Act} {w:World}
theorem At.norm (h:At w0 X Pr0 γ0 σ γ Pr a w) (live:List Nat) : ∃ γ',At w0 X Pr0 γ0 (norm live σ) γ' Pr a w:=by
 have hpre:=Fv σ.res (m9 live 0 σ.slots) (kK σ.n0)
 have hlen:σ.n0≤(g6 σ.res (m9 live 0 σ.slots) (kK σ.n0)).length:=by
  have:=hpre.length_le
  rwa[lT] at this
 obtain⟨γ',h1,h2,h3⟩:=h.inv.norm live
 refine⟨γ',h1,?_,h2,hlen⟩
 intro r hr
 have hr':r < σ.n0:=hr
 rw[←h.low r hr']
 apply h3
 obtain⟨t,ht⟩:=hpre
 rw[←ht,U2 (by rw[lT]; exact hr')]
 exact Dr hr'
end
theorem Jn (ops:Array Oper):(∀ p∈(Y0 ops.size).zip ops.toList,ops[p.1]? = some p.2)∧((Y0 ops.size).zip ops.toList).map (·.1)=Y0 ops.size:=by
 constructor
 ·intro p hp
  obtain⟨k,hk,rfl⟩:=X0 hp
  rw[List.getElem_zip]
  simp only[List.getElem_range]
  rw[←V4]
  exact Q7 _
 ·exact List.map_fst_zip (by simp)
section
variable {P:Program} {E:bZ}
def CP (P:Program) (E:bZ) (w0:World) (X:Nat→Prop) (k:Nat):Prop := ∀(I:am) {R:Type} (K:St→Option R) (c:Code) (S:List Fr) (σ:St) (z:R),run E k I K c S σ=some z → ∀(Pr0:Nat→Nat→Prop) (γ0 γ:Nat→Option G) (Pr:Nat→Nat→Prop) (a:Act) (w:World) (Q:Exit→Act→World→Prop),
 At w0 X Pr0 γ0 σ γ Pr a w→(∀ σ' γ' Pr' a' w',K σ'=some z→At w0 X Pr0 γ0 σ' γ' Pr' a' w'→σ'.n0=σ.n0→Q .normal a' w'∧Q .ret a' w') → ∀ n,k≤n→c.wp P (bU P n S Q) a w
def Ht (P:Program) (E:bZ) (w0:World) (X:Nat→Prop) (k:Nat):Prop := ∀(I:am) {R:Type} (K:St→Option R) (S:List Fr) (σ:St) (z:R),ot (run E k) I K S σ=some z → ∀(Pr0:Nat→Nat→Prop) (γ0 γ:Nat→Option G) (Pr:Nat→Nat→Prop) (a:Act) (w:World) (Q:Exit→Act→World→Prop),
 At w0 X Pr0 γ0 σ γ Pr a w→(∀ σ' γ' Pr' a' w',K σ'=some z→At w0 X Pr0 γ0 σ' γ' Pr' a' w'→σ'.n0=σ.n0→Q .normal a' w'∧Q .ret a' w') → ∀ n,k≤n→bU P n S Q .normal a w
theorem xv {I:am} {R:Type} {K:St→Option R} {c:Code} {S:List Fr} {σ:St}:run E 0 I K c S σ=none:=rfl
theorem j0 {k:Nat} {I:am} {R:Type} {K:St→Option R} {c:Code} {S:List Fr} {σ:St}:run E (k+1) I K c S σ=na E (run E k) I K c S σ:=rfl
theorem Jo {w0:World} {X:Nat→Prop} (k:Nat) (hR : ∀ j,j≤k→CP P E w0 X j) : ∀ j,j≤k→Ht P E w0 X j:=by
 intro j
 induction j with
 | zero =>
  intro _ I R K S σ z h Pr0 γ0 γ Pr a w Q hA hQ n hn
  cases S with
  | nil=>exact(hQ σ γ Pr a w h hA rfl).1
  | cons f S=>cases f <;> (simp only[ot,xv] at h; cases h)
 | succ j ih =>
  intro hj I R K S σ z h Pr0 γ0 γ Pr a w Q hA hQ n hn
  cases S with
  | nil=>exact(hQ σ γ Pr a w h hA rfl).1
  | cons f S =>
   cases f with
   | seq b=>exact hR (j+1) hj I K b S σ z h Pr0 γ0 γ Pr a w Q hA hQ n hn
   | block id =>
    simp only[ot,j0,na] at h
    exact ih (by omega) I K S σ z h Pr0 γ0 γ Pr a w Q hA hQ n (by omega)
   | loop b =>
    simp only[ot,j0,na] at h
    obtain⟨m,rfl⟩ : ∃ m,n=m+1:=⟨n - 1,by omega⟩
    have:=hR j (by omega) I K b (.loop b :: S) σ z h Pr0 γ0 γ Pr a w Q hA hQ m (by omega)
    show b.wp P (Exit.then (Code.rounds P b (bU P (m+1) S Q) m) (bU P (m+1) S Q)) a w
    refine Code.wp_mono (fun e a w h => ?_) this
    cases e <;> first | exact qp (fun _ _ _ h'=>cW (by omega) S h') (Q6 _) h | exact cW (by omega) S h
theorem NF {w0:World} {X:Nat→Prop} (hm:P.follows .mixedOrders=true) (hE:dI P E) (k:Nat) (hC : ∀ j,j < k→gC (jJ w0 X) P E (dq E (run E j))) : ∀ j,j≤k→CP P E w0 X j:=by
 intro j
 induction j using Nat.strongRecOn with
 | _ j ih =>
  intro hj I R K c S σ z h Pr0 γ0 γ Pr a w Q hA hQ n hn
  cases j with
  | zero=>rw[xv] at h; cases h
  | succ j =>
   have hpop:Ht P E w0 X j:=Jo j (fun i hi=>ih i (by omega) (by omega)) j (Q6 _)
   have hrun:CP P E w0 X j:=ih j (by omega) (by omega)
   rw[j0] at h
   unfold na at h
   split at h
   ·exact wp_skip (hpop I K S σ z h Pr0 γ0 γ Pr a w Q hA hQ n (by omega))
   ·rename_i id ops draw
    dsimp only at h
    have hE':dI P {E with sub:=I.sub}:=⟨hE.ty,hE.by_,hE.fns,hE.eqs⟩
    have hC' : ∀ j,j < k→gC (jJ w0 X) P {E with sub:=I.sub} (dq E (run E j)):=hC
    obtain⟨σ1,γ1,hA1,hn0,h1⟩ : ∃ σ1 γ1,At w0 X Pr0 γ0 σ1 γ1 Pr a w∧σ1.n0=σ.n0∧ca {E with sub:=I.sub} (dq E (run E j)) ops draw σ1.nx ((Y0 ops.size).zip ops.toList) [] σ1 (fun σ'=>ot (run E j) I K S {σ' with nx:=σ1.nx+64*ops.size})=some z:=by
     split at h
     ·rename_i l hl
      obtain⟨γ',hA'⟩:=hA.norm l
      exact⟨norm l σ,γ',hA',rfl,h⟩
     ·exact⟨σ,γ,hA,rfl,h⟩
    have hfin : ∀(σ':St) (γ':Nat→Option G) (Pr':Nat→Nat→Prop) (a':Act) (w':World),ot (run E j) I K S {σ' with nx:=σ1.nx+64*ops.size}=some z→bc w0 X Pr0 σ'.slots (ap σ'.res) γ' Pr' a' w'→(∀ r,r < σ1.nx→γ' r=γ1 r)→(∀ r,σ1.nx+64*ops.size≤r→γ' r=none)→σ'.n0=σ1.n0→σ'.nx=σ1.nx→bU P n S Q .normal a' w':=by
     intro σ' γ' Pr' a' w' h2 h3 h4 h5 h6 h7
     refine hpop I K S _ z h2 Pr0 γ0 γ' Pr' a' w' Q ⟨h3,?_,h5,?_⟩ (fun σ2 γ2 Pr2 a2 w2 h8 h9 h10=>hQ σ2 γ2 Pr2 a2 w2 h8 h9 ?_) n (by omega)
     ·intro r hr
      have hr':r < σ1.n0:=by rw[←h6]; exact hr
      rw[h4 r (U7 hr' hA1.le)]
      exact hA1.low r hr'
     ·have:=hA1.le
      show σ'.n0≤σ1.nx+64*ops.size
      omega
     ·exact h10.trans (h6.trans hn0)
    cases draw with
    | false =>
     refine wp_region ?_
     have hz:=Jn ops
     rw[←hz.2]
     refine Lf (γ0:=γ1) (hC' j (by omega)) hE' h1 hz.1 (by rw[hz.2]; exact List.nodup_range) hA1.inv (fun p hp r h2 h3=>hA1.high r (by omega)) (fun r hr=>rfl) (fun p hp=>(T4.1 (hz.1 p hp)).1) (fun r hr=>hA1.high r (by omega)) ?_
     intro σ' γ' Pr' a' w' h2 h3 h4 h5 h6 h7
     exact hfin σ' γ' Pr' a' w' h2 h3 h4 h5 h6 h7
    | true=>exact Li hm (hC' j (by omega)) hE' (γ0:=γ1) h1 hA1.inv (fun r hr=>rfl) hA1.high hfin
   ·rename_i x y
    refine wp_seq ?_
    exact hrun I K x (.seq y :: S) σ z h Pr0 γ0 γ Pr a w Q hA hQ n (by omega)
   ·rename_i cnd x y
    split at h
    ·rename_i b hb
     have hev:=CO hA.inv.slots cnd
     rw[hb] at hev
     have hbv:=eZ hev
     split at h
     ·rename_i hbt
      rw[show b=true from hbt] at hbv
      exact wp_cond_true hbv (hrun I K x S σ z h Pr0 γ0 γ Pr a w Q hA hQ n (by omega))
     ·rename_i hbf
      have hbf':b=false:=by
       cases hh:(b:Bool) with
       | true=>exact S0 hh hbf
       | false=>rfl
      rw[hbf'] at hbv
      exact wp_cond_false hbv (hrun I K y S σ z h Pr0 γ0 γ Pr a w Q hA hQ n (by omega))
    ·cases h
   ·rename_i id x
    refine wp_block ?_
    exact hrun I K x (.block id :: S) σ z h Pr0 γ0 γ Pr a w Q hA hQ n (by omega)
   ·rename_i x
    refine wp_loop_rounds (n+1) ?_
    exact hrun I K x (.loop x :: S) σ z h Pr0 γ0 γ Pr a w Q hA hQ n (by omega)
   ·rename_i id
    split at h
    ·rename_i S' hS'
     cases j with
     | zero=>rw[xv] at h; cases h
     | succ j =>
      have hpop':Ht P E w0 X j:=Jo j (fun i hi=>ih i (by omega) (by omega)) j (Q6 _)
      rw[j0] at h
      simp only[na] at h
      exact wp_exit (iV (I:=I) S hS' (hpop' I K S' σ z h Pr0 γ0 γ Pr a w Q hA hQ n (by omega)))
    ·cases h
   ·exact wp_ret (jK S (hQ σ γ Pr a w h hA rfl).2)
   ·cases h
end
end Go.Proofs.YtfffplonjaigkaaGreatDoor.Abs
namespace Go.Proofs.YtfffplonjaigkaaGreatDoor.Abs
open Go Go.RowKit
def kY (γ γr:Nat→Option G) (ro:List Nat) (n:Nat):Prop := ∀(i r:Nat),ro[i]? = some r→γr (n+i)=γ r
theorem kY.left {γ γr:Nat→Option G} {a b:List Nat} {n:Nat} (h:kY γ γr (a++b) n):kY γ γr a n:=fun i r hr=>h i r (by
 rw[U2 (Q9.1 hr).1]
 exact hr)
theorem kY.right {γ γr:Nat→Option G} {a b:List Nat} {n:Nat} (h:kY γ γr (a++b) n):kY γ γr b (n+a.length):=fun i r hr=>by
 have:=h (a.length+i) r (by
  rw[V8 (by omega)]
  simpa using hr)
 rwa[←W5] at this
section
variable {L:Lk} {γ γr:Nat→Option G} {res:az} {fr:List Nat}
theorem Ds {t:Ty} {v:SV} {x:t.den} (h:dQ res (.val t) v=some x):cj res 9 t v=some x:=by
 cases v <;> exact h
theorem oA {e:TypeId} {t:Ty} {b:Bool} {v:SV} {x:List t.den} (h:dQ res (.row e t b) v=some x) : ∃ r,v = .row r∧ap res r=some (.row e t x b):=by
 cases v <;> first | (cases h; done) | skip
 rename_i r
 have h':(match ap res r with
  | some (.row e' s xs fr')=>match (b == fr') with
   | true=>g9? (t := .slice e' s) (.slice e t) xs
   | false=>none
  | _=>none)=some x:=h
 split at h'
 ·rename_i e' s xs fr' hg
  split at h'
  ·rename_i hb
   obtain⟨he,hx⟩:=f9 h'
   cases he
   have hx:xs=x:=hx
   subst hx
   have:b=fr':=by simpa using hb
   subst this
   exact⟨r,rfl,hg⟩
  ·cases h'
 ·cases h'
theorem kZ {s:Sh} {v:SV} {x:s.den} (h:dQ res (.strct s) v=some x) : ∃ l,v = .strct l∧dQ.go res s l=some x:=by
 cases v <;> first | (cases h; done) | skip
 rename_i l
 exact⟨l,rfl,h⟩
theorem gw {a b:Sh} {l:List SV} {x:(Sh.pair a b).den} (h:dQ.go res (.pair a b) l=some x) : ∃ v l',l=v :: l'∧dQ res a v=some x.1∧dQ.go res b l'=some x.2:=by
 cases l with
 | nil=>cases h
 | cons v l =>
  have h':((dQ res a v).bind fun x=>(dQ.go res b l).bind fun y=>some (x,y))=some x:=h
  rw[P7] at h'
  obtain⟨x1,h1,h'⟩:=h'
  rw[P7] at h'
  obtain⟨x2,h2,h'⟩:=h'
  cases h'
  exact⟨v,l,rfl,h1,h2⟩
theorem uF {l:List SV} {x:Sh.unit.den} (h:dQ.go res .unit l=some x):l=[]:=by
 cases l with
 | nil=>rfl
 | cons v l=>cases h
theorem et (hR:e8 L γ res (fun r=>r∈fr)) (hT:kO γ res) : ∀(s:Sh),(∀(t0:Ty) (v:SV) (cs:List Value) (x:s.den) (n:Nat),RT L γ t0 v cs→dQ res s v=some x→(∀ r∈dp s v,r∈fr)→kY γ γr (av s v) n → ∃ t,si s=some t∧RT L γr t (ax s x n).1 cs) ∧
  (∀(t0:Ty) (l:List SV) (cs:List Value) (x:s.den) (n:Nat),ec L γ t0 l cs→dQ.go res s l=some x→(∀ r∈dp.go s l,r∈fr)→kY γ γr (av.go s l) n → ∃ t,si.go s=some t∧ec L γr t (ax.go s x n).1 cs)
 | .val t=>⟨fun t0 v cs x n hv h hf hn=>by
   have hk:=ou hR 9 9 (Q6 _) (by
    intro r hr
    exact hf r (by cases v <;> exact hr)) hv (Ds h)
   exact⟨t,rfl,.val hk⟩,fun t0 l cs x n hv h hf hn=>by cases l <;> cases h⟩
 | .row e t b=>⟨fun t0 v cs x n hv h hf hn=>by
   obtain⟨r,rfl,hg⟩:=oA h
   cases hv with
   | row hγ =>
    obtain⟨v',hv'⟩:=hT r e t x (.inl ⟨b,hg⟩)
    rw[hγ] at hv'
    cases hv'
    refine⟨_,rfl,RT.row ?_⟩
    have:=hn 0 r rfl
    rw[Y2] at this
    rw[this]
    exact hγ,fun t0 l cs x n hv h hf hn=>by cases l <;> cases h⟩
 | .unit=>⟨(fun t0 v cs x n hv h hf hn=>by cases v <;> cases h),fun t0 l cs x n hv h hf hn=>by
   have:=uF h
   subst this
   cases hv
   exact⟨.unit,rfl,.nil⟩⟩
 | .ptr t=>⟨(fun t0 v cs x n hv h hf hn=>by cases v <;> cases h),fun t0 l cs x n hv h hf hn=>by cases l <;> cases h⟩
 | .strct s=>⟨fun t0 v cs x n hv h hf hn=>by
   obtain⟨l,rfl,h'⟩:=kZ h
   cases hv with
   | strct hl =>
    obtain⟨t,h1,h2⟩:=(et hR hT s).2 _ l cs x n hl h' hf hn
    refine⟨.agg t,?_,.strct h2⟩
    show(si.go s).map Ty.agg=_
    rw[h1]
    rfl,fun t0 l cs x n hv h hf hn=>by cases l <;> cases h⟩
 | .pair a b=>⟨(fun t0 v cs x n hv h hf hn=>by cases v <;> cases h),fun t0 l cs x n hv h hf hn=>by
   obtain⟨v,l',rfl,h1,h2⟩:=gw h
   cases hv with
   | cons hv hk =>
    have hro:av.go (.pair a b) (v :: l')=av a v++av.go b l':=rfl
    rw[hro] at hn
    have hc:=(give_count a).1 v x.1 n h1
    obtain⟨t1,h3,h4⟩:=(et hR hT a).1 _ v _ x.1 n hv h1 (fun r hr=>hf r (X7 _ hr)) hn.left
    obtain⟨t2,h5,h6⟩:=(et hR hT b).2 _ l' _ x.2 (ax a x.1 n).2.2 hk h2 (fun r hr=>hf r (X2 _ hr)) (by rw[hc]; exact hn.right)
    refine⟨.pair t1 t2,?_,.cons h4 h6⟩
    show((si a).bind fun t=>(si.go b).map fun u=>Ty.pair t u)=_
    rw[h3,h5]
    rfl⟩
where
 give_count : ∀(s:Sh),(∀(v:SV) (x:s.den) (n:Nat),dQ res s v=some x→(ax s x n).2.2=n+(av s v).length)∧(∀(l:List SV) (x:s.den) (n:Nat),dQ.go res s l=some x→(ax.go s x n).2.2=n+(av.go s l).length)
  | .val t=>⟨fun v x n h=>by cases v <;> rfl,fun l x n h=>by cases l <;> cases h⟩
  | .row e t b=>⟨fun v x n h=>by
    obtain⟨r,rfl,hg⟩:=oA h
    rfl,fun l x n h=>by cases l <;> cases h⟩
  | .unit=>⟨(fun v x n h=>by cases v <;> cases h),fun l x n h=>by
    have:=uF h
    subst this
    rfl⟩
  | .ptr t=>⟨(fun v x n h=>by cases v <;> cases h),fun l x n h=>by cases l <;> cases h⟩
  | .strct s=>⟨fun v x n h=>by
    obtain⟨l,rfl,h'⟩:=kZ h
    exact(give_count s).2 l x n h',fun l x n h=>by cases l <;> cases h⟩
  | .pair a b=>⟨(fun v x n h=>by cases v <;> cases h),fun l x n h=>by
    obtain⟨v,l',rfl,h1,h2⟩:=gw h
    show(ax.go b x.2 (ax a x.1 n).2.2).2.2=n+(av a v++av.go b l').length
    rw[(give_count b).2 l' x.2 _ h2,(give_count a).1 v x.1 n h1,P6]
    omega⟩
theorem wb (hR:e8 L γ res (fun r=>r∈fr)) (hT:kO γ res) {s:Sh} {v:SV} {u:Value} {x:s.den} {n:Nat} (hv:RV L γ v u) (h:dQ res s v=some x) (hf : ∀ r∈dp s v,r∈fr) (hn:kY γ γr (av s v) n):RV L γr (ax s x n).1 u:=by
 cases s with
 | val t =>
  obtain⟨cs,rfl,hk⟩:=eB hR (d':=9) (Q6 _) (by
   intro r hr
   exact hf r (by cases v <;> exact hr)) hv (Ds h)
  exact .val hk
 | row e t b =>
  obtain⟨r,rfl,hg⟩:=oA h
  cases hv with
  | row hγ =>
   have:=hn 0 r rfl
   rw[Y2] at this
   exact .row (this.trans hγ)
 | unit=>cases v <;> cases h
 | ptr t=>cases v <;> cases h
 | pair a b=>cases v <;> cases h
 | strct s =>
  obtain⟨l,rfl,h'⟩:=kZ h
  cases hv with
  | strct hl =>
   obtain⟨t,h1,h2⟩:=(et hR hT s).2 _ l _ x n hl h' hf hn
   exact .strct h2
theorem mH : ∀(s:Sh),(∀(v:SV) (x:s.den) (n:Nat),dQ res s v=some x → ∀ p∈(ax s x n).2.1,∃(i r:Nat) (e:TypeId) (t:Ty) (xs:List t.den) (b:Bool),p=(n+i,some (.row e t xs b))∧(av s v)[i]? = some r∧ap res r=some (.row e t xs b)) ∧
  (∀(l:List SV) (x:s.den) (n:Nat),dQ.go res s l=some x → ∀ p∈(ax.go s x n).2.1,∃(i r:Nat) (e:TypeId) (t:Ty) (xs:List t.den) (b:Bool),p=(n+i,some (.row e t xs b))∧(av.go s l)[i]? = some r∧ap res r=some (.row e t xs b))
 | .val t=>⟨fun v x n h p hp=>by simp[ax] at hp,fun l x n h=>by cases l <;> cases h⟩
 | .row e t b=>⟨fun v x n h p hp=>by
   obtain⟨r,rfl,hg⟩:=oA h
   simp only[ax,R7] at hp
   exact⟨0,r,e,t,x,b,hp,rfl,hg⟩,fun l x n h=>by cases l <;> cases h⟩
 | .unit=>⟨(fun v x n h=>by cases v <;> cases h),fun l x n h p hp=>by simp[ax.go] at hp⟩
 | .ptr t=>⟨(fun v x n h p hp=>by cases v <;> cases h),fun l x n h=>by cases l <;> cases h⟩
 | .strct s=>⟨fun v x n h p hp=>by
   obtain⟨l,rfl,h'⟩:=kZ h
   exact(mH s).2 l x n h' p hp,fun l x n h=>by cases l <;> cases h⟩
 | .pair a b=>⟨(fun v x n h=>by cases v <;> cases h),fun l x n h p hp=>by
   obtain⟨v,l',rfl,h1,h2⟩:=gw h
   have hp':p∈(ax a x.1 n).2.1++(ax.go b x.2 (ax a x.1 n).2.2).2.1:=hp
   have hro:av.go (.pair a b) (v :: l')=av a v++av.go b l':=rfl
   rw[hro]
   rcases T6.1 hp' with hp | hp
   ·obtain⟨i,r,e,t,xs,b',h3,h4,h5⟩:=(mH a).1 v x.1 n h1 p hp
    exact⟨i,r,e,t,xs,b',h3,by rw[U2 (Q9.1 h4).1]; exact h4,h5⟩
   ·obtain⟨i,r,e,t,xs,b',h3,h4,h5⟩:=(mH b).2 l' x.2 _ h2 p hp
    have hc:=(et.give_count a).1 v x.1 n h1
    refine⟨(av a v).length+i,r,e,t,xs,b',?_,?_,h5⟩
    ·rw[h3,hc,W5]
    ·rw[V8 (by omega)]
     simpa using h4⟩
variable {n0:Nat}
theorem pR {t:Ty} {v:SV} {x:t.den} (h:mm n0 res (.ptr t) v=some x) : ∃ r c,v = .ptr r t []∧n0≤r∧ap res r=some (.box t c)∧cj [] 9 t c=some x:=by
 unfold mm at h
 cases v <;> first | (cases h; done) | skip
 rename_i r s p
 cases p with
 | cons _ _=>cases h
 | nil =>
  simp only at h
  split at h
  ·rename_i t' c hb hg
   split at h
   ·rename_i hs
    split at h
    ·rename_i ht
     subst hs
     subst ht
     exact⟨r,c,rfl,Nat.le_of_ble_eq_true hb,hg,h⟩
    ·cases h
   ·cases h
  ·cases h
theorem jv {a b:Sh} {l:List SV} {x:(Sh.pair a b).den} (h:ik n0 res (.pair a b) l=some x) : ∃ v l',l=v :: l'∧mm n0 res a v=some x.1∧ik n0 res b l'=some x.2:=by
 cases l with
 | nil=>cases h
 | cons v l =>
  have h':((mm n0 res a v).bind fun x=>(ik n0 res b l).bind fun y=>some (x,y))=some x:=h
  rw[P7] at h'
  obtain⟨x1,h1,h'⟩:=h'
  rw[P7] at h'
  obtain⟨x2,h2,h'⟩:=h'
  cases h'
  exact⟨v,l,rfl,h1,h2⟩
theorem mp {l:List SV} {x:Sh.unit.den} (h:ik n0 res .unit l=some x):l=[]:=by
 cases l with
 | nil=>rfl
 | cons v l=>cases h
theorem uG : ∀(s:Sh) (v:SV) (x:s.den) (n:Nat),mm n0 res s v=some x→(ax s x n).2.2=n+(av s v).length:=by
 intro s v x n h
 cases s with
 | val t=>exact(et.give_count (res:=res) (.val t)).1 v x n h
 | row e t b=>exact(et.give_count (res:=res) (.row e t b)).1 v x n h
 | strct s=>exact(et.give_count (res:=res) (.strct s)).1 v x n h
 | pair a b =>
  have h':dQ res (.pair a b) v=some x:=h
  cases v <;> cases h'
 | unit=>cases v <;> rfl
 | ptr t =>
  obtain⟨r,c,rfl,_⟩:=pR h
  rfl
theorem yL : ∀(s:Sh) (l:List SV) (x:s.den) (n:Nat),ik n0 res s l=some x→(ax.go s x n).2.2=n+(av.go s l).length
 | .val t,l,x,n,h=>by cases l <;> cases h
 | .row e t b,l,x,n,h=>by cases l <;> cases h
 | .strct s,l,x,n,h=>by cases l <;> cases h
 | .ptr t,l,x,n,h=>by cases l <;> cases h
 | .unit,l,x,n,h=>by
  have:=mp h
  subst this
  rfl
 | .pair a b,l,x,n,h=>by
  obtain⟨v,l',rfl,h1,h2⟩:=jv h
  show(ax.go b x.2 (ax a x.1 n).2.2).2.2=n+(av a v++av.go b l').length
  rw[yL b l' x.2 _ h2,uG a v x.1 n h1,P6]
  omega
theorem NG (hR:e8 L γ res (fun r=>r∈fr)) (hT:kO γ res) {s:Sh} {v:SV} {u:Value} {x:s.den} {n:Nat} (hv:RV L γ v u) (h:mm n0 res s v=some x) (hf : ∀ r∈dp s v,r∈fr) (hn:kY γ γr (av s v) n):RV L γr (ax s x n).1 u:=by
 cases s with
 | val t=>exact wb hR hT hv (s := .val t) h hf hn
 | row e t b=>exact wb hR hT hv (s := .row e t b) h hf hn
 | strct s=>exact wb hR hT hv (s := .strct s) h hf hn
 | pair a b=>exact wb hR hT hv (s := .pair a b) h hf hn
 | unit=>exact .undef
 | ptr t =>
  obtain⟨r,c,rfl,_⟩:=pR h
  cases hv with
  | ptr hk hp =>
   have h1:=hn 0 r rfl
   rw[Y2] at h1
   exact .ptr (h1.trans hk) hp
theorem Dt (hR:e8 L γ res (fun r=>r∈fr)) (hT:kO γ res) : ∀(s:Sh) (l:List SV) (us:List Value) (x:s.den) (n:Nat),bR L γ l us→ik n0 res s l=some x→(∀ r∈dp.go s l,r∈fr)→kY γ γr (av.go s l) n→bR L γr (ax.go s x n).1 us
 | .val t,l,us,x,n,hv,h,hf,hn=>by cases l <;> cases h
 | .row e t b,l,us,x,n,hv,h,hf,hn=>by cases l <;> cases h
 | .strct s,l,us,x,n,hv,h,hf,hn=>by cases l <;> cases h
 | .ptr t,l,us,x,n,hv,h,hf,hn=>by cases l <;> cases h
 | .unit,l,us,x,n,hv,h,hf,hn=>by
  have:=mp h
  subst this
  cases hv
  exact .nil
 | .pair a b,l,us,x,n,hv,h,hf,hn=>by
  obtain⟨v,l',rfl,h1,h2⟩:=jv h
  cases hv with
  | cons hv hk =>
   have hro:av.go (.pair a b) (v :: l')=av a v++av.go b l':=rfl
   rw[hro] at hn
   have hc:=uG a v x.1 n h1
   exact .cons (NG hR hT hv h1 (fun r hr=>hf r (X7 _ hr)) hn.left)
    (Dt hR hT b l' _ x.2 (ax a x.1 n).2.2 hk h2 (fun r hr=>hf r (X2 _ hr)) (by rw[hc]; exact hn.right))
def mq (n0:Nat) (res:az) (r:Nat) (y:aN):Prop:=(∃(e:TypeId) (t:Ty) (xs:List t.den) (b:Bool),y = .row e t xs b∧ap res r=some y) ∨ ∃(t:Ty) (c:SV) (x:t.den),y = .box t (eI (.val t x))∧n0≤r∧ap res r=some (.box t c)∧cj [] 9 t c=some x
theorem mq.old {r:Nat} {y:aN} (h:mq n0 res r y) : ∃ y0,ap res r=some y0∧(∀(γ:Nat→Option G) r,bg γ r y0=bg γ r y) ∧ ∀ o,fu y0 o→fu y o:=by
 rcases h with⟨e,t,xs,b,rfl,hg⟩ | ⟨t,c,x,rfl,_,hg,_⟩
 ·exact⟨_,hg,fun _ _=>rfl,fun _ h=>h⟩
 ·exact⟨_,hg,fun _ _=>rfl,fun _ h=>h⟩
theorem Lj : ∀(s:Sh) (v:SV) (x:s.den) (n:Nat),mm n0 res s v=some x→(∀ p∈(ax s x n).2.1,∃(i r:Nat) (y:aN),p=(n+i,some y)∧(av s v)[i]? = some r∧mq n0 res r y):=by
 intro s v x n h p hp
 have old:(dQ res s v=some x) → ∃(i r:Nat) (y:aN),p=(n+i,some y)∧(av s v)[i]? = some r∧mq n0 res r y:=fun h=>by
  obtain⟨i,r,e,t,xs,b,h1,h2,h3⟩:=(mH s).1 v x n h p hp
  exact⟨i,r,_,h1,h2,.inl ⟨e,t,xs,b,rfl,h3⟩⟩
 cases s with
 | val t=>exact old h
 | row e t b=>exact old h
 | strct s=>exact old h
 | pair a b=>exact old h
 | unit=>simp[ax] at hp
 | ptr t =>
  obtain⟨r,c,rfl,h1,h2,h3⟩:=pR h
  simp only[ax,R7] at hp
  exact⟨0,r,_,hp,rfl,.inr ⟨t,c,x,rfl,h1,h2,h3⟩⟩
theorem Bs : ∀(s:Sh) (l:List SV) (x:s.den) (n:Nat),ik n0 res s l=some x → ∀ p∈(ax.go s x n).2.1,∃(i r:Nat) (y:aN),p=(n+i,some y)∧(av.go s l)[i]? = some r∧mq n0 res r y
 | .val t,l,x,n,h=>by cases l <;> cases h
 | .row e t b,l,x,n,h=>by cases l <;> cases h
 | .strct s,l,x,n,h=>by cases l <;> cases h
 | .ptr t,l,x,n,h=>by cases l <;> cases h
 | .unit,l,x,n,h=>fun p hp=>by simp[ax.go] at hp
 | .pair a b,l,x,n,h=>fun p hp=>by
  obtain⟨v,l',rfl,h1,h2⟩:=jv h
  have hp':p∈(ax a x.1 n).2.1++(ax.go b x.2 (ax a x.1 n).2.2).2.1:=hp
  have hro:av.go (.pair a b) (v :: l')=av a v++av.go b l':=rfl
  rw[hro]
  rcases T6.1 hp' with hp | hp
  ·obtain⟨i,r,y,h3,h4,h5⟩:=Lj a v x.1 n h1 p hp
   exact⟨i,r,y,h3,by rw[U2 (Q9.1 h4).1]; exact h4,h5⟩
  ·obtain⟨i,r,y,h3,h4,h5⟩:=Bs b l' x.2 _ h2 p hp
   have hc:=uG a v x.1 n h1
   refine⟨(av a v).length+i,r,y,?_,?_,h5⟩
   ·rw[h3,hc,W5]
   ·rw[V8 (by omega)]
    simpa using h4
end
end Go.Proofs.YtfffplonjaigkaaGreatDoor.Abs
namespace Go.Proofs.YtfffplonjaigkaaGreatDoor.Abs
open Go Go.RowKit
section
variable {L:Lk} {γ γr:Nat→Option G} {res:az} {fr:List Nat}
theorem NH {n0:Nat} {s:Sh} {v:SV} {x:s.den} (h:mm n0 res s v=some x):v ≠ .undef:=by
 rintro rfl
 cases s <;> first | (cases h; done) | skip
theorem Gy {n0:Nat} : ∀ {s:Sh} {l:List SV} {x:s.den},ik n0 res s l=some x → ∀ v∈l,v ≠ .undef
 | .val t,l,x,h=>by cases l <;> cases h
 | .row e t b,l,x,h=>by cases l <;> cases h
 | .strct s,l,x,h=>by cases l <;> cases h
 | .ptr t,l,x,h=>by cases l <;> cases h
 | .unit,l,x,h=>by
  have:=mp h
  subst this
  intro v hv
  simp at hv
 | .pair a b,l,x,h=>by
  obtain⟨v,l',rfl,h1,h2⟩:=jv h
  intro u hu
  rcases R4.1 hu with rfl | hu
  ·exact NH h1
  ·exact Gy h2 u hu
theorem oB : ∀(s:Sh),(∀(v:SV) (x:s.den),dQ res s v=some x → ∀ r∈av s v,∃(e:TypeId) (t:Ty) (xs:List t.den) (b:Bool),ap res r=some (.row e t xs b)) ∧
  (∀(l:List SV) (x:s.den),dQ.go res s l=some x → ∀ r∈av.go s l,∃(e:TypeId) (t:Ty) (xs:List t.den) (b:Bool),ap res r=some (.row e t xs b))
 | .val t=>⟨fun v x h r hr=>by cases v <;> simp[av] at hr,fun l x h=>by cases l <;> cases h⟩
 | .row e t b=>⟨fun v x h r hr=>by
   obtain⟨r',rfl,hg⟩:=oA h
   have:r=r':=by simpa[av] using hr
   subst this
   exact⟨e,t,x,b,hg⟩,fun l x h=>by cases l <;> cases h⟩
 | .unit=>⟨fun v x h=>(by cases v <;> cases h),fun l x h r hr=>by
   have:=uF h
   subst this
   simp[av.go] at hr⟩
 | .ptr t=>⟨fun v x h=>(by cases v <;> cases h),fun l x h=>by cases l <;> cases h⟩
 | .strct s=>⟨fun v x h=>by
   obtain⟨l,rfl,h'⟩:=kZ h
   exact(oB s).2 l x h',fun l x h=>by cases l <;> cases h⟩
 | .pair a b=>⟨fun v x h=>(by cases v <;> cases h),fun l x h r hr=>by
   obtain⟨v,l',rfl,h1,h2⟩:=gw h
   have hr':r∈av a v++av.go b l':=hr
   rcases T6.1 hr' with hr | hr
   ·exact(oB a).1 v x.1 h1 r hr
   ·exact(oB b).2 l' x.2 h2 r hr⟩
theorem MF {n0:Nat} : ∀(s:Sh) (v:SV) (x:s.den),mm n0 res s v=some x → ∀ r∈av s v,∃ y,mq n0 res r y:=by
 intro s v x h r hr
 have old:dQ res s v=some x → ∃ y,mq n0 res r y:=fun h=>by
  obtain⟨e,t,xs,b,hg⟩:=(oB s).1 v x h r hr
  exact⟨_,.inl ⟨e,t,xs,b,rfl,hg⟩⟩
 cases s with
 | val t=>exact old h
 | row e t b=>exact old h
 | strct s=>exact old h
 | pair a b=>exact old h
 | unit=>cases v <;> simp[av] at hr
 | ptr t =>
  obtain⟨r',c,rfl,h1,h2,h3⟩:=pR h
  have:r=r':=by simpa[av] using hr
  subst this
  exact⟨_,.inr ⟨t,c,x,rfl,h1,h2,h3⟩⟩
theorem Du {n0:Nat} : ∀(s:Sh) (l:List SV) (x:s.den),ik n0 res s l=some x → ∀ r∈av.go s l,∃ y,mq n0 res r y
 | .val t,l,x,h=>by cases l <;> cases h
 | .row e t b,l,x,h=>by cases l <;> cases h
 | .strct s,l,x,h=>by cases l <;> cases h
 | .ptr t,l,x,h=>by cases l <;> cases h
 | .unit,l,x,h=>fun r hr=>by
  have:=mp h
  subst this
  simp[av.go] at hr
 | .pair a b,l,x,h=>fun r hr=>by
  obtain⟨v,l',rfl,h1,h2⟩:=jv h
  have hr':r∈av a v++av.go b l':=hr
  rcases T6.1 hr' with hr | hr
  ·exact MF a v x.1 h1 r hr
  ·exact Du b l' x.2 h2 r hr
theorem mI {rb:Bool} (hR:e8 L γ res (fun r=>r∈fr)) (hT:kO γ res) : ∀(tab:az) (s:Sh) (cs:List SV) (y:s.den) (n:Nat) (ub:List (Option aN)),iO rb res tab=some cs→dQ.go res s cs=some y→bW rb tab (ax.go s y n).1 (ml s)=some ub →
  (∀ r∈dp.go s cs,r∈fr)→kY γ γr (av.go s cs) n → ∀(j:Nat) (t:Ty) (c':SV),ub[j]? = some (some (.box t c')) → ∃(key:Nat) (c c0:SV),tab[j]? = some (key,.box t c0)∧ap res key=some (.box t c) ∧ ∀ cells,RT L γ t c cells→RT L γr t c' cells
 | [],s,cs,y,n,ub,_,_,hb,_,_,j,t,c',hj=>by
  have:=(fV hb).1
  rw[T9 this] at hj
  simp at hj
 | (k,.row e t0 xs fr0) :: l,s,cs,y,n,ub,hbx,ho,hb,hf,hn,j,t,c',hj=>by
  cases rb with
  | false =>
   unfold bW at hb
   simp only[P7,R8] at hb
   obtain⟨u',h1,rfl⟩:=hb
   have hbx':iO false res l=some cs:=hbx
   cases j with
   | zero=>simp at hj
   | succ j =>
    obtain⟨key,c,c0,h2,h3,h4⟩:=mI hR hT l s cs y n u' hbx' ho h1 hf hn j t c' (by simpa using hj)
    exact⟨key,c,c0,by simpa using h2,h3,h4⟩
  | true =>
   unfold iO at hbx
   simp only[P7,R8] at hbx
   obtain⟨cs',h1,rfl⟩:=hbx
   cases s with
   | val _=>cases ho
   | row _ _ _=>cases ho
   | strct _=>cases ho
   | ptr _=>cases ho
   | unit=>cases ho
   | pair a b =>
    obtain⟨v,l',he,h2,h3⟩:=gw ho
    cases he
    have hro:av.go (.pair a b) (.row k :: cs')=av a (.row k)++av.go b cs':=rfl
    rw[hro] at hn
    have hc:=(et.give_count a).1 (.row k) y.1 n h2
    have hmk:(ax.go (.pair a b) y n).1=(ax a y.1 n).1 :: (ax.go b y.2 (ax a y.1 n).2.2).1:=rfl
    rw[hmk] at hb
    have hst:ml (.pair a b)=si a :: ml b:=rfl
    rw[hst] at hb
    unfold bW at hb
    simp only at hb
    split at hb
    ·rename_i m1 vs1 s1 ts1 hv1 hs1
     obtain⟨_,rfl⟩:=be_ hv1
     obtain⟨_,rfl⟩:=be_ hs1
     simp only[P7,R8] at hb
     obtain⟨u',h4,rfl⟩:=hb
     cases j with
     | zero=>simp at hj
     | succ j =>
      obtain⟨key,c1,c2,h5,h6,h7⟩:=mI hR hT l b cs' y.2 (ax a y.1 n).2.2 u' h1 h3 h4 (fun r hr=>hf r (X2 _ hr)) (by rw[hc]; exact hn.right) j t c' (by simpa using hj)
      exact⟨key,c1,c2,by simpa using h5,h6,h7⟩
    ·cases hb
 | (k,.old e t0 xs) :: l,s,cs,y,n,ub,hbx,ho,hb,hf,hn,j,t,c',hj=>by
  unfold bW at hb
  simp only[P7] at hb
  obtain⟨u',h1,he⟩:=hb
  cases he
  cases j with
  | zero=>simp at hj
  | succ j =>
   obtain⟨key,c,c0,h2,h3,h4⟩:=mI hR hT l s cs y n u' hbx ho h1 hf hn j t c' (by simpa using hj)
   exact⟨key,c,c0,by simpa using h2,h3,h4⟩
 | (k,.gone e t0 xs) :: l,s,cs,y,n,ub,hbx,ho,hb,hf,hn,j,t,c',hj=>by
  unfold bW at hb
  simp only[P7] at hb
  obtain⟨u',h1,he⟩:=hb
  cases he
  cases j with
  | zero=>simp at hj
  | succ j =>
   obtain⟨key,c,c0,h2,h3,h4⟩:=mI hR hT l s cs y n u' hbx ho h1 hf hn j t c' (by simpa using hj)
   exact⟨key,c,c0,by simpa using h2,h3,h4⟩
 | (k,.keepF g0 caps0) :: l,s,cs,y,n,ub,hbx,ho,hb,hf,hn,j,t,c',hj=>by
  unfold bW at hb
  simp only[P7] at hb
  obtain⟨u',h1,he⟩:=hb
  cases he
  cases j with
  | zero=>simp at hj
  | succ j =>
   obtain⟨key,c,c0,h2,h3,h4⟩:=mI hR hT l s cs y n u' hbx ho h1 hf hn j t c' (by simpa using hj)
   exact⟨key,c,c0,by simpa using h2,h3,h4⟩
 | (k,.rowP g0 caps0) :: l,s,cs,y,n,ub,hbx,ho,hb,hf,hn,j,t,c',hj=>by
  unfold bW at hb
  simp only[P7] at hb
  obtain⟨u',h1,he⟩:=hb
  cases he
  cases j with
  | zero=>simp at hj
  | succ j =>
   obtain⟨key,c,c0,h2,h3,h4⟩:=mI hR hT l s cs y n u' hbx ho h1 hf hn j t c' (by simpa using hj)
   exact⟨key,c,c0,by simpa using h2,h3,h4⟩
 | (k,.box t0 c0) :: l,s,cs,y,n,ub,hbx,ho,hb,hf,hn,j,t,c',hj=>by
  unfold iO at hbx
  split at hbx
  ·rename_i t' c hg
   split at hbx
   ·rename_i htt
    subst htt
    rw[P7] at hbx
    obtain⟨cs',h1,he⟩:=hbx
    cases he
    cases s with
    | val _=>cases ho
    | row _ _ _=>cases ho
    | strct _=>cases ho
    | ptr _=>cases ho
    | unit=>cases ho
    | pair a b =>
     obtain⟨v,l',he,h2,h3⟩:=gw ho
     cases he
     have hro:av.go (.pair a b) (c :: cs')=av a c++av.go b cs':=rfl
     rw[hro] at hn
     have hc:=(et.give_count a).1 c y.1 n h2
     have hmk:(ax.go (.pair a b) y n).1=(ax a y.1 n).1 :: (ax.go b y.2 (ax a y.1 n).2.2).1:=rfl
     rw[hmk] at hb
     have hst:ml (.pair a b)=si a :: ml b:=rfl
     rw[hst] at hb
     unfold bW at hb
     split at hb
     ·rename_i v1 vs1 s1 ts1 hv1 hs1
      cases hv1
      obtain⟨hs2,rfl⟩:=be_ hs1
      split at hb
      ·rename_i hs1t
       rw[P7] at hb
       obtain⟨u',h4,he⟩:=hb
       cases he
       cases j with
       | zero =>
        simp only[List.getElem?_cons_zero,R8,aN.box.injEq] at hj
        obtain⟨rfl,rfl⟩:=hj
        refine⟨k,c,c0,rfl,hg,fun cells hcells => ?_⟩
        obtain⟨t2,h5,h6⟩:=(et hR hT a).1 _ c cells y.1 n hcells h2 (fun r hr=>hf r (X7 _ hr)) hn.left
        rw[hs2] at h5
        cases h5
        rw[←hs1t]
        exact h6
       | succ j =>
        obtain⟨key,c1,c2,h5,h6,h7⟩:=mI hR hT l b cs' y.2 (ax a y.1 n).2.2 u' h1 h3 h4 (fun r hr=>hf r (X2 _ hr)) (by rw[hc]; exact hn.right) j t c' (by simpa using hj)
        exact⟨key,c1,c2,by simpa using h5,h6,h7⟩
      ·cases hb
     ·cases hb
   ·cases hbx
  ·cases hbx
theorem ku {rb:Bool} : ∀(tab:az) (s:Sh) (cs:List SV) (y:s.den) (n:Nat),iO rb res tab=some cs→dQ.go res s cs=some y→kY γ γr (av.go s cs) n → ∀ p∈cu rb tab (ax.go s y n).1,γr p.1=γ p.2
 | [],s,cs,y,n,_,_,_,p,hp=>by
  generalize (ax.go s y n).1=bs at hp
  cases bs <;> simp[cu] at hp
 | (k,.box t0 c0) :: l,s,cs,y,n,hbx,ho,hn,p,hp=>by
  unfold iO at hbx
  split at hbx
  ·split at hbx
   ·simp only[P7,R8] at hbx
    obtain⟨cs',h1,rfl⟩:=hbx
    cases s with
    | val _=>cases ho
    | row _ _ _=>cases ho
    | strct _=>cases ho
    | ptr _=>cases ho
    | unit=>cases ho
    | pair a b =>
     obtain⟨v,l',he,h2,h3⟩:=gw ho
     cases he
     have hro : ∀ c,av.go (.pair a b) (c :: cs')=av a c++av.go b cs':=fun _=>rfl
     rw[hro] at hn
     have hc:=(et.give_count a).1 _ y.1 n h2
     have hp':p∈cu rb l (ax.go b y.2 (ax a y.1 n).2.2).1:=hp
     exact ku l b cs' y.2 _ h1 h3 (by rw[hc]; exact hn.right) p hp'
   ·cases hbx
  ·cases hbx
 | (k,.old e t0 xs) :: l,s,cs,y,n,hbx,ho,hn,p,hp=>ku l s cs y n hbx ho hn p (by unfold cu at hp; exact hp)
 | (k,.gone e t0 xs) :: l,s,cs,y,n,hbx,ho,hn,p,hp=>ku l s cs y n hbx ho hn p (by unfold cu at hp; exact hp)
 | (k,.keepF g0 caps0) :: l,s,cs,y,n,hbx,ho,hn,p,hp=>ku l s cs y n hbx ho hn p (by unfold cu at hp; exact hp)
 | (k,.rowP g0 caps0) :: l,s,cs,y,n,hbx,ho,hn,p,hp=>ku l s cs y n hbx ho hn p (by unfold cu at hp; exact hp)
 | (k,.row e t0 xs fr0) :: l,s,cs,y,n,hbx,ho,hn,p,hp=>by
  cases rb with
  | false =>
   have hbx':iO false res l=some cs:=hbx
   exact ku l s cs y n hbx' ho hn p (by unfold cu at hp; exact hp)
  | true =>
   unfold iO at hbx
   simp only[P7,R8] at hbx
   obtain⟨cs',h1,rfl⟩:=hbx
   cases s with
   | val _=>cases ho
   | row _ _ _=>cases ho
   | strct _=>cases ho
   | ptr _=>cases ho
   | unit=>cases ho
   | pair a b =>
    obtain⟨v,l',he,h2,h3⟩:=gw ho
    cases he
    have hro:av.go (.pair a b) (.row k :: cs')=av a (.row k)++av.go b cs':=rfl
    rw[hro] at hn
    have hc:=(et.give_count a).1 (.row k) y.1 n h2
    have hmk:(ax.go (.pair a b) y n).1=(ax a y.1 n).1 :: (ax.go b y.2 (ax a y.1 n).2.2).1:=rfl
    rw[hmk] at hp
    unfold cu at hp
    simp only at hp
    split at hp
    ·rename_i m vs hv
     obtain⟨hv1,rfl⟩:=be_ hv
     rcases R4.1 hp with rfl | hp
     ·cases a with
      | val t=>cases hv1
      | row e' t' fr' =>
       have hv2:SV.row n = .row m:=hv1
       cases hv2
       have:=hn.left 0 k rfl
       simpa using this
      | unit=>cases h2
      | pair _ _=>cases h2
      | strct _=>cases h2
      | ptr _=>cases h2
     ·exact ku l b cs' y.2 _ h1 h3 (by rw[hc]; exact hn.right) p hp
    ·simp at hp
theorem Dv : ∀ {u:Up} {get:Nat→Option aN} {m:Nat} {y:aN},be get u m=some y→(m,some y)∈u∨get m=some y
 | [],get,m,y,h => .inr h
 | (k,x) :: u,get,m,y,h=>by
  rcases Dv (u:=u) (show be (fun s=>if s=k then x else get s) u m=some y from h) with h2 | h2
  ·exact .inl (Q5 _ h2)
  ·by_cases hk:m=k
   ·rw[P5 hk] at h2
    subst hk
    rw[h2]
    exact .inl (by simp)
   ·rw[P4 hk] at h2
    exact .inr h2
end
section
variable {P:Program} {E:bZ} {w0:World} {X:Nat→Prop} {Pr0:Nat→Nat→Prop} {γ:Nat→Option G} {Pr:Nat→Nat→Prop} {a:Act} {w:World} {σ:St}
abbrev lU (a:Act):ResultVar→Sem Value:=fun
 | .tmp t=>pure (a.tmps.getD t undef)
 | .cell c t=>do loadVar t (←asAddr (a.tmps.getD c undef))
theorem Jp (hE:dI P E) (hI:bc w0 X Pr0 σ.slots (ap σ.res) γ Pr a w) (rv:ResultVar) (hne:dj E σ rv ≠ .undef) : ∃ val,(lU a rv).run P w = .ok val w∧RV (Ln Pr w) γ (dj E σ rv) val:=by
 cases rv with
 | tmp t=>exact⟨_,rfl,CO hI.slots (.tmp t)⟩
 | cell c T =>
  have hev:=CO hI.slots (.tmp c)
  simp only[ev,Act.eval] at hev
  simp only[dj] at hne ⊢
  split at hne
  ·rename_i r s path t hsl hT
   split at hne
   ·rename_i bt c' hg
    split at hne
    ·rename_i v hv
     split at hne
     ·rename_i hst
      subst hst
      rw[hsl] at hev
      obtain⟨cs,h1,h2⟩:=xm (P:=P) hI hev hg (bE hE hT).2 hv
      refine⟨mk s cs,?_,?_⟩
      ·generalize hx:a.tmps.getD c undef=x at *
       cases hev with
       | ptr hb hp =>
        simp only[Instr.loadAt,Instr.sureAddr,R3,R9,Q4] at h1
        simp only[lU,hx,asAddr,R3,R9,Q4]
        exact h1
      ·simp only[hsl,hT,hg,hv,P5]
       exact Hm h2
     ·exact S0 rfl hne
    ·exact S0 rfl hne
   ·exact S0 rfl hne
  ·exact S0 rfl hne
theorem yM (hE:dI P E) (hI:bc w0 X Pr0 σ.slots (ap σ.res) γ Pr a w) : ∀(l:List ResultVar),(∀ v∈l.map (dj E σ),v ≠ .undef) → ∃ vals,(l.mapM (lU a)).run P w = .ok vals w∧bR (Ln Pr w) γ (l.map (dj E σ)) vals
 | [],_=>⟨[],by simp,.nil⟩
 | rv :: l,h=>by
  obtain⟨val,h1,h2⟩:=Jp hE hI rv (h _ (by simp))
  obtain⟨vals,h3,h4⟩:=yM hE hI l (fun v hv=>h v (by rw[V6]; exact Q5 _ hv))
  refine⟨val :: vals,?_,.cons h2 h4⟩
  simp only[List.mapM_cons,R3,h1,Q4,h3,R9]
theorem Fw {fn:Func} {vals:List Value} (h:(fn.results.toList.mapM (lU a)).run P w = .ok vals w):(results fn a.tmps).run P w = .ok (uB vals) w:=by
 have hm:(fn.results.mapM (lU a)).run P w = .ok vals.toArray w:=by
  rw[Array.mapM_eq_mapM_toList,Sem.run_map,h]
  rfl
 show(do let vs ←fn.results.mapM (lU a); pure (if h:vs.size=1 then vs[0] else .tuple vs):Sem Value).run P w=_
 simp only[R3,hm,Q4,R9]
 congr 1
 match vals with
 | []=>rfl
 | [v]=>rfl
 | v :: v' :: l =>
  rw[dif_neg (by simp)]
  rfl
theorem Dw {Gp:WP} (hE:dI P E) (hP:rf Gp P E) {k:Nat} (hR : ∀ w0 X,Gp w0 X→CP P E w0 X k):gC Gp P E (dq E (run E k)):=by
 intro I args tab z key hg hz
 unfold dq at hz
 split at hz
 ·rename_i f hf
  exact hP I f key hg hf args tab z hz
 intro hcanon w γ Pr us hGp hI hlim N hN vs u n bs u' n' ub hmk1 hmk2 hub
 obtain⟨hfn,hbody,_⟩:=hE.fns key I hg
 obtain⟨c,hc⟩ : ∃ c,I.fn.body=some c:=by
  cases hb:I.fn.body with
  | none=>rw[hb] at hbody; cases hbody
  | some c=>exact⟨c,rfl⟩
 have hbo:aK I.fn=c:=by unfold aK; rw[hc]
 refine calls_of_wp hfn hc ?_
 have hlen:args.length=us.length:=Gh hI.slots
 have hrep : ∀ m,bR (Ln Pr w) γ (T1 m .undef) (T1 m undef):=by
  intro m
  induction m with
  | zero=>exact .nil
  | succ m ih=>exact .cons .undef ih
 have hI0:bc w (ju tab γ) Pr (start I args tab).slots (ap (start I args tab).res) γ Pr {tmps:=us.toArray++Array.replicate (I.fn.ntmps - us.toArray.size) undef,defers:=[]} w:=by
  refine⟨?_,rfl,hI.gs,hI.wfs,hI.res,hI.apart,hI.loose,hI.where_,hI.frame,hI.size,hI.os,hI.tape,hI.output,hI.prIn,hI.prOld,hI.pr0⟩
  show bR (Ln Pr w) γ (args++T1 (I.fn.ntmps - args.length) .undef) (us.toArray++Array.replicate (I.fn.ntmps - us.toArray.size) undef).toList
  have:(us.toArray++Array.replicate (I.fn.ntmps - us.toArray.size) undef).toList=us++T1 (I.fn.ntmps - us.length) undef:=by simp
  rw[this,hlen]
  exact sx hI.slots (hrep _)
 have hz':run E k I (gu E I tab) c [] (start I args tab)=some z:=by rw[←hbo]; exact hz
 refine hR w (ju tab γ) hGp I (gu E I tab) c [] (start I args tab) z hz' Pr γ γ Pr _ w (bodyPost P I.fn _) ⟨hI0,fun _ _=>rfl,hlim,Q6 _⟩ ?_ k (Q6 _)
 intro σ' γ' Pr' a' w' hfin hA hn0
 have key:a'.defers=[] ∧ ∃ v,(results I.fn a'.tmps).run P w' = .ok v w' ∧ ∃ vals γr Pr2,Ending.returned v = .returned (uB vals)∧sw w (ju tab γ) γ Pr N n' vs ub (u++u') vals γr Pr2 w' ∧ ∀ p∈cu I.rb tab bs,γr p.1=γ p.2:=by
  refine⟨hA.inv.defers,?_⟩
  unfold gu at hfin
  simp only[P7] at hfin
  obtain⟨x,hx,cs,hcs,y,hy,hfin⟩:=hfin
  split at hfin
  ·rename_i honce hmeet
   cases hfin
   obtain⟨vals,hrun,hvals⟩:=yM hE hA.inv I.fn.results.toList (Gy hx)
   refine⟨uB vals,Fw hrun,vals,?_⟩
   obtain⟨Pr2,hI2,hP2,hR2,hsame,_,hkeep⟩:=fU (res:=σ'.res) hA.inv (fun r x h=>h) (dp.go I.sh (I.fn.results.toList.map (dj E σ'))++dp.go I.bx cs)
   have hT2:kO γ' σ'.res:=hA.inv.tys (fun r x h=>h)
   have hL2 : ∀ b o v,Ln Pr' w' b o v→Ln Pr2 w' b o v:=fun b o v h=>⟨hP2 _ _ h.1,h.2⟩
   have hnd:=xq honce
   have hn0':σ'.n0=tab.length:=hn0
   have hnumb:kY γ' (fun m=>if N≤m then((bC I.sh (I.fn.results.toList.map (dj E σ'))++bC I.bx cs)[m - N]?).bind γ' else none) (bC I.sh (I.fn.results.toList.map (dj E σ'))++bC I.bx cs) N:=by
    intro i r hr
    show(if N≤N+i then _ else none)=_
    rw[P5 (by omega),bb_,hr]
    rfl
   have hcnt1:n=N+(bC I.sh (I.fn.results.toList.map (dj E σ'))).length:=by
    have:=yL I.sh _ x N hx
    have h2:(ax.go I.sh x N).2.2=n:=by
     have h3:ax.go I.sh x N=(vs,u,n):=hmk1
     rw[h3]
    rw[←h2]
    exact this
   have hcnt2:n'=N+(bC I.sh (I.fn.results.toList.map (dj E σ'))++bC I.bx cs).length:=by
    have:=(et.give_count I.bx).2 _ y n hy
    have h2:(ax.go I.bx y n).2.2=n':=by
     have h3:ax.go I.bx y n=(bs,u',n'):=hmk2
     rw[h3]
    rw[←h2,this,hcnt1,P6,W5]
    rfl
   have hvs:vs=(ax.go I.sh x N).1:=by
    have h3:ax.go I.sh x N=(vs,u,n):=hmk1
    rw[h3]
   have hbs:bs=(ax.go I.bx y n).1:=by
    have h3:ax.go I.bx y n=(bs,u',n'):=hmk2
    rw[h3]
   have hro : ∀ r∈bC I.sh (I.fn.results.toList.map (dj E σ'))++bC I.bx cs,∃ y1,mq tab.length σ'.res r y1:=by
    intro r hr
    rcases T6.1 hr with hr | hr
    ·exact Du I.sh _ x hx r hr
    ·obtain⟨e,t,xs,b,hg⟩:=(oB I.bx).2 _ y hy r hr
     exact⟨_,.inl ⟨e,t,xs,b,rfl,hg⟩⟩
   have hget2 : ∀ r∈bC I.sh (I.fn.results.toList.map (dj E σ'))++bC I.bx cs,be (ap σ'.res) (bL σ'.res (dp.go I.sh (I.fn.results.toList.map (dj E σ'))++dp.go I.bx cs)) r=ap σ'.res r:=fun r hr=>hsame r (fun h=>kp hmeet r hr h)
   have hrows : ∀ m w1,jl (u++u') m=some w1 → ∃(i r:Nat),m=N+i∧(bC I.sh (I.fn.results.toList.map (dj E σ'))++bC I.bx cs)[i]? = some r∧mq tab.length σ'.res r w1:=by
    intro m w1 h
    rcases Dv h with h | h
    ·have hu1:u=(ax.go I.sh x N).2.1:=by
      have h3:ax.go I.sh x N=(vs,u,n):=hmk1
      rw[h3]
     have hu2:u'=(ax.go I.bx y n).2.1:=by
      have h3:ax.go I.bx y n=(bs,u',n'):=hmk2
      rw[h3]
     rcases T6.1 h with h | h
     ·rw[hu1] at h
      obtain⟨i,r,y1,h1,h2,h3⟩:=Bs I.sh _ x N hx _ h
      cases h1
      exact⟨i,r,rfl,(U2 (Q9.1 h2).1).trans h2,h3⟩
     ·rw[hu2] at h
      obtain⟨i,r,e,t,xs,b,h1,h2,h3⟩:=(mH I.bx).2 _ y n hy _ h
      cases h1
      refine⟨(bC I.sh (I.fn.results.toList.map (dj E σ'))).length+i,r,by rw[hcnt1,W5],?_,.inl ⟨e,t,xs,b,rfl,h3⟩⟩
      rw[V8 (by omega),bb_]
      exact h2
    ·cases h
   have hinj : ∀(i i' r:Nat),(bC I.sh (I.fn.results.toList.map (dj E σ'))++bC I.bx cs)[i]? = some r→(bC I.sh (I.fn.results.toList.map (dj E σ'))++bC I.bx cs)[i']? = some r→i=i':=by
    intro i i' r h h'
    exact(List.getElem?_inj (Q9.1 h).1 hnd).1 (h.trans h'.symm)
   have hblk : ∀(i r:Nat) (y:aN),(bC I.sh (I.fn.results.toList.map (dj E σ'))++bC I.bx cs)[i]? = some r→bg (fun m=>if N≤m then((bC I.sh (I.fn.results.toList.map (dj E σ'))++bC I.bx cs)[m - N]?).bind γ' else none) (N+i) y=bg γ' r y:=by
    intro i r y h
    have:=hnumb i r h
    cases y <;> simp only[bg,this]
   have hbox:=mI (γ:=γ') (γr:=fun m=>if N≤m then((bC I.sh (I.fn.results.toList.map (dj E σ'))++bC I.bx cs)[m - N]?).bind γ' else none) hR2 hT2 tab I.bx cs y n ub hcs hy (by rw[←hbs]; exact hub) (fun r hr=>X2 _ hr) (by rw[hcnt1]; exact hnumb.right)
   have hboxγ : ∀(j:Nat) (t:Ty) (c':SV),ub[j]? = some (some (.box t c')) → ∃ c1,ap σ'.res j=some (.box t c1)∧γ' j=γ j∧be (ap σ'.res) (bL σ'.res (dp.go I.sh (I.fn.results.toList.map (dj E σ'))++dp.go I.bx cs)) j=some (.box t c1) ∧ ∀ cells,RT (Ln Pr2 w') γ' t c1 cells→RT (Ln Pr2 w') (fun m=>if N≤m then((bC I.sh (I.fn.results.toList.map (dj E σ'))++bC I.bx cs)[m - N]?).bind γ' else none) t c' cells:=by
    intro j t c' hj
    obtain⟨key,c1,c0,h1,h2,h3⟩:=hbox j t c' hj
    have hkj:key=j:=hcanon j _ h1
    subst hkj
    have hjl:key < tab.length:=(Q9.1 h1).1
    refine⟨c1,h2,hA.low key (by rw[hn0']; exact hjl),?_,h3⟩
    rw[hkeep key (fun e t xs b h=>by rw[h2] at h; cases h)]
    exact h2
   refine⟨fun m=>if N≤m then((bC I.sh (I.fn.results.toList.map (dj E σ'))++bC I.bx cs)[m - N]?).bind γ' else none,Pr2,rfl,?_,?_⟩
   rotate_left
   ·intro p hp
    rw[hbs] at hp
    have h1:=ku (γ:=γ') (γr:=fun m=>if N≤m then((bC I.sh (I.fn.results.toList.map (dj E σ'))++bC I.bx cs)[m - N]?).bind γ' else none) tab I.bx cs y n hcs hy (by rw[hcnt1]; exact hnumb.right) p hp
    rw[←hbs] at hp
    obtain⟨j,q,h2,h3,_⟩:=fE hub p hp
    have h4:p.2 < tab.length:=by
     rw[←h3,hcanon j q h2]
     exact(Q9.1 h2).1
    rw[←hA.low p.2 (by rw[hn0']; exact h4)]
    exact h1
   constructor
   case vals =>
    rw[hvs]
    exact Dt hR2 hT2 I.sh _ vals x N (eA hL2 (fun _ _ h=>h) hvals) hx (fun r hr=>X7 _ hr) hnumb.left
   case lim =>
    intro r g hr
    split at hr
    ·rename_i hNr
     rw[P7] at hr
     obtain⟨s,hs,hγ⟩:=hr
     have hsl:=(Q9.1 hs).1
     refine⟨⟨hNr,by rw[hcnt2]; omega⟩,?_⟩
     obtain⟨_,⟨e,t,xs,b,rfl,hrow⟩ | ⟨t,c,x1,rfl,_,hrow,_⟩⟩:=hro s (T2 hs)
     ·obtain⟨v,css,hv,_⟩:=hA.inv.res s _ hrow
      rw[hγ] at hv
      cases hv
      obtain⟨A,m,c,rfl⟩:=hA.inv.gs _ _ _ _ hγ
      exact .inl ⟨e,t,A,m,c,rfl⟩
     ·obtain⟨b,arr,T,hv,_⟩:=hA.inv.res s _ hrow
      rw[hγ] at hv
      cases hv
      exact .inr ⟨b,t,rfl,hA.inv.wfs _ _ _ hγ⟩
    ·cases hr
   case box =>
    intro j t c' hj
    obtain⟨c1,h1,h2,h3,h4⟩:=hboxγ j t c' hj
    obtain⟨b,arr,T,h5,h6,h7⟩:=hI2.res j _ h3
    exact⟨b,arr,T,by rw[←h2]; exact h5,h6,h7.map h4⟩
   case row =>
    intro m w1 h
    obtain⟨i,r,rfl,h1,h2⟩:=hrows m w1 h
    have hil:=(Q9.1 h1).1
    refine⟨by omega,by rw[hcnt2]; omega,?_⟩
    rcases h2 with⟨e,t,xs,b,rfl,h2⟩ | ⟨t,c,x1,rfl,_,h2,h7⟩
    ·obtain⟨v,css,h3,h4,h5,h6⟩:=hI2.res r _ ((hget2 r (T2 h1)).trans h2)
     exact⟨v,css,(hnumb i r h1).trans h3,h4,h5,h6⟩
    ·obtain⟨b,arr,T,h3,h4,h5⟩:=hI2.res r _ ((hget2 r (T2 h1)).trans h2)
     refine⟨b,arr,T,(hnumb i r h1).trans h3,h4,h5.map fun cs h5 => ?_⟩
     have hk:=ou (L:=Ln Pr2 w') (γ:=γ') (res:=[]) (P:=fun _=>True) (fun r e t xs _ hh=>by rcases hh with⟨_,hh⟩ | hh <;> cases hh) 9 9 (Q6 _) (fun _ _=>trivial) h5 h7
     exact pP (.val hk) fun u hu=>by
      subst hu
      exact ra (hI2.wfs _ _ _ h3)
   case apart =>
    intro m m' y1 y2 b h h' hne hb
    obtain⟨i,r,rfl,h1,hh2⟩:=hrows m y1 h
    obtain⟨i',r',rfl,h1',hh2'⟩:=hrows m' y2 h'
    obtain⟨y1',h2,hbb,_⟩:=hh2.old
    obtain⟨y2',h2',hbb',_⟩:=hh2'.old
    rw[hblk i r _ h1,←hbb] at hb
    rw[hblk i' r' _ h1',←hbb']
    refine hI2.apart r r' y1' y2' b ((hget2 r (T2 h1)).trans h2) ((hget2 r' (T2 h1')).trans h2') (fun e=>hne ?_) hb
    subst e
    rw[hinj i i' r h1 h1']
   case beside =>
    intro j t c' b hj hγj m y1 h hb
    obtain⟨c1,h1,h2,h3,h4⟩:=hboxγ j t c' hj
    obtain⟨i,r,rfl,h5,hh6⟩:=hrows m y1 h
    have hjl:j < tab.length:=by
     rw[←(fV hub).1]
     exact(Q9.1 hj).1
    have hne:r≠j:=by
     rintro rfl
     rcases hh6 with⟨e,t',xs,b',rfl,h6⟩ | ⟨t',c2,x1,rfl,h6,_⟩
     ·rw[h6] at h1
      cases h1
     ·omega
    obtain⟨y1',h6,hbb,_⟩:=hh6.old
    rw[hblk i r _ h5,←hbb] at hb
    exact hI2.apart r j _ _ b ((hget2 r (T2 h5)).trans h6) h3 hne hb (by simp[bg,h2,hγj])
   case boxLoose =>
    intro j t c' b hj hγj o ho
    obtain⟨c1,h1,h2,h3,h4⟩:=hboxγ j t c' hj
    exact hI2.loose j _ b h3 (by simp[bg,h2,hγj]) o ho
   case rowLoose =>
    intro m y1 b h hb o ho
    obtain⟨i,r,rfl,h1,hh2⟩:=hrows m y1 h
    obtain⟨y1',h2,hbb,hml⟩:=hh2.old
    rw[hblk i r _ h1,←hbb] at hb
    exact hml o (hI2.loose r _ b ((hget2 r (T2 h1)).trans h2) hb o ho)
   case where_ =>
    intro m y1 b h hb
    obtain⟨i,r,rfl,h1,hh2⟩:=hrows m y1 h
    obtain⟨y1',h2,hbb,_⟩:=hh2.old
    rw[hblk i r _ h1,←hbb] at hb
    exact hI2.where_ r _ b ((hget2 r (T2 h1)).trans h2) hb
   case frame=>exact hI2.frame
   case size=>exact hI2.size
   case os=>exact hI2.os
   case tape=>exact hI2.tape
   case output=>exact hI2.output
   case prIn=>exact hI2.prIn
   case prOld=>exact hI2.prOld
   case lean=>exact hI2.pr0
  ·cases hfin
 exact⟨key,key⟩
theorem Jq {Gp:WP} (hst:yD Gp) (hm:P.follows .mixedOrders=true) (hE:dI P E) (hP:rf Gp P E) : ∀ k,gC Gp P E (dq E (run E k)):=by
 intro k
 induction k using Nat.strongRecOn with
 | _ k ih=>exact Dw hE hP fun w0 X hG=>NF hm hE k (fun j hj=>(ih j hj).weaken fun w X' hf=>hst w0 X w X' hG hf) k (Q6 _)
end
end Go.Proofs.YtfffplonjaigkaaGreatDoor.Abs
namespace Go.Proofs.YtfffplonjaigkaaGreatDoor.Abs
open Go Go.RowKit
theorem oc {α:Type} : ∀ {l:List (Nat×α)} {k:Nat} {v:α},ct l k=some v→(k,v)∈l
 | [],_,_,h=>by cases h
 | (i,x) :: l,k,v,h=>by
  unfold ct at h
  split at h
  ·rename_i hb
   cases h
   rw[T0 hb]
   simp
  ·exact Q5 _ (oc h)
def Hu:Value→Value→Bool
 | .int k n,.int k' m=>decide (k=k') && decide (n=m)
 | .bool a,.bool b=>a == b
 | .string s,.string t=>decide (s.data.toList=t.data.toList)
 | .slice none 0 0,.slice none 0 0=>true
 | .nilIface,.nilIface=>true
 | .nilFunc,.nilFunc=>true
 | .pointer none,.pointer none=>true
 | _,_=>false
theorem Ll {a b:Value} (h:Hu a b=true):a=b:=by
 unfold Hu at h
 split at h
 ·simp only[P8,Q0] at h
  rw[h.1,h.2]
 ·rw[eq_of_beq h]
 ·have h':=U8 h
  rename_i s t
  cases s
  cases t
  exact Q3 (fun d=>Value.string ⟨d⟩) (X9.1 h')
 ·rfl
 ·rfl
 ·rfl
 ·rfl
 ·cases h
def yN:List Value→List Value→Bool
 | [],[]=>true
 | a :: l,b :: m=>Hu a b && yN l m
 | _,_=>false
theorem Bt : ∀ {l m:List Value},yN l m=true→l=m
 | [],[],_=>rfl
 | a :: l,b :: m,h=>by
  simp only[yN,P8] at h
  rw[Ll h.1,Bt h.2]
 | [],_ :: _,h=>by cases h
 | _ :: _,[],h=>by cases h
def NI (T:TypeId):Ty→Bool
 | .agg (.pair (.bp T') _)=>U6 T T'
 | _=>true
theorem MG {T:TypeId} {t:Ty} (h:NI T t=true) : ∀ T' s,t = .agg (.pair (.bp T') s)→T=T':=by
 rintro T' s rfl
 exact T0 h
def wc (P:Program) (T:TypeId) (t:Ty):Bool:=match P.info? T,P.underlying T with
 | some i,some d=>U6 i.size t.sz && (match i.zero with | some z=>yN z.cells.toList (zc t) | none=>false) && (KX d == kM t) && cy false t && NI T t
 | _,_=>false
theorem sA {P:Program} {T:TypeId} {t:Ty} (h:wc P T t=true):dK P T t:=by
 unfold wc at h
 split at h
 ·rename_i i d hi hd
  simp only[P8] at h
  obtain⟨⟨⟨⟨h1,h2⟩,h3⟩,h4⟩,h5⟩:=h
  split at h2
  ·rename_i z hz
   exact⟨⟨i,hi,T0 h1,z,hz,Bt h2⟩,⟨d,hd,eq_of_beq h3⟩,h4,MG h5⟩
  ·cases h2
 ·cases h
def wd (P:Program):List Field→Ty→Nat→Bool
 | [],.unit,_=>true
 | f :: fs,.pair a b,o=>U6 f.offset o && !(f.name == "_") && Nat.blt 0 a.sz && wc P f.type a && wd P fs b (o+a.sz)
 | _,_,_=>false
theorem yO {P:Program} : ∀ {fs:List Field} {t:Ty} {o:Nat},wd P fs t o=true→Gi P fs t o
 | [],.unit,_,_=>trivial
 | f :: fs,.pair a b,o,h=>by
  simp only[wd,P8,Z1] at h
  obtain⟨⟨⟨⟨h1,h2⟩,h3⟩,h4⟩,h5⟩:=h
  exact⟨T0 h1,fun e=>(by rw[e] at h2; simp at h2),(by simpa[Nat.blt_eq] using h3),sA h4,yO h5⟩
 | [],.int _,_,h=>by cases h
 | [],.bool,_,h=>by cases h
 | [],.err,_,h=>by cases h
 | [],.fn,_,h=>by cases h
 | [],.pt,_,h=>by cases h
 | [],.bp _,_,h=>by cases h
 | [],.str,_,h=>by cases h
 | [],.pair _ _,_,h=>by cases h
 | [],.agg _,_,h=>by cases h
 | [],.slice _ _,_,h=>by cases h
 | _ :: _,.int _,_,h=>by cases h
 | _ :: _,.bool,_,h=>by cases h
 | _ :: _,.err,_,h=>by cases h
 | _ :: _,.fn,_,h=>by cases h
 | _ :: _,.pt,_,h=>by cases h
 | _ :: _,.bp _,_,h=>by cases h
 | _ :: _,.str,_,h=>by cases h
 | _ :: _,.unit,_,h=>by cases h
 | _ :: _,.agg _,_,h=>by cases h
 | _ :: _,.slice _ _,_,h=>by cases h
def Dx (P:Program) (T:TypeId) (t:Ty):Bool:=match P.underlying T,t with
 | some (.int k),.int k'=>decide (k=k')
 | some .bool,.bool=>true
 | some .string,.str=>true
 | some (.slice e),.slice e' t=>U6 e e' && wc P e t && Nat.blt 0 t.sz && (!decide (t = .int .u8) || (match P.underlying e with | some (.int .u8)=>true | _=>false))
 | some (.struct fs),.agg t=>wd P fs.toList t 0
 | some (.interface _),.err=>true
 | some _,.fn=>true
 | some _,.pt=>true
 | some _,.bp _=>true
 | _,_=>false
theorem Jr {P:Program} {T:TypeId} {t:Ty} (h:Dx P T t=true):iP P T t:=by
 unfold Dx at h
 split at h
 ·rename_i k k' hu
  rw[U8 h] at hu
  exact hu
 ·rename_i hu
  exact hu
 ·rename_i hu
  exact hu
 ·rename_i e e' t hu
  simp only[P8] at h
  obtain⟨⟨⟨h1,h2⟩,h3⟩,h4⟩:=h
  have:=T0 h1
  subst this
  refine⟨hu,sA h2,(by simpa[Nat.blt_eq] using h3),fun ht => ?_⟩
  simp only[ht,decide_true,S1,Bool.false_or] at h4
  split at h4
  ·assumption
  ·cases h4
 ·rename_i fs t hu
  exact⟨fs,hu,yO h⟩
 ·rename_i ms hu
  exact⟨ms,hu⟩
 ·trivial
 ·trivial
 ·trivial
 ·cases h
def Hv (P:Program) (g:TypeId→Ty→Bool):List Field→Ty→Nat→Bool
 | [],.unit,_=>true
 | f :: fs,.pair a b,o=>U6 f.offset o && !(f.name == "_") && wc P f.type a && g f.type a && Hv P g fs b (o+a.sz)
 | _,_,_=>false
def j6 (P:Program):Nat→TypeId→Ty→Bool
 | 0,_,_=>false
 | _+1,T,.int _=>match P.underlying T with | some (.int _)=>true | _=>false
 | _+1,T,.bool=>match P.underlying T with | some .bool=>true | _=>false
 | _+1,T,.str=>match P.underlying T with | some .string=>true | _=>false
 | d+1,T,.agg t=>match P.underlying T with
  | some (.struct fs) => !(P.stoodInHeld T) && Hv P (j6 P d) fs.toList t 0
  | _=>false
 | _,_,_=>false
theorem Gz {P:Program} {g:TypeId→Ty→Bool} {L:Lk} {d:Nat} {w:World} (hg : ∀ T t,g T t=true → ∀(x y:t.den) (cs ds:List Value),RK L t x cs→RK L t y ds→(Op.equalIn d T (mk t cs) (mk t ds)).run P w = .ok (bO t x y) w) :
  ∀ {fs:List Field} {t:Ty} {o:Nat},Hv P g fs t o=true → ∀ {x y:t.den} {cs ds xs ys:List Value},RK L t x cs→RK L t y ds→df cs xs o→df ds ys o→(Op.eqFields d xs.toArray ys.toArray fs).run P w = .ok (bO t x y) w
 | [],.unit,_,_,_,_,_,_,_,_,_,_,_,_=>rfl
 | f :: fs,.pair a b,o,h,x,y,cs,ds,xs,ys,hx,hy,hsx,hsy=>by
  simp only[Hv,P8,Z1] at h
  obtain⟨⟨⟨⟨h1,h2⟩,h3⟩,h4⟩,h5⟩:=h
  have h1:=T0 h1
  have hn:f.name ≠ "_" := fun e=>by rw[e] at h2; simp at h2
  have hi:=sA h3
  obtain⟨c1,d1,rfl,hx1,hx2⟩:=hx
  obtain⟨c2,d2,rfl,hy1,hy2⟩:=hy
  have p1:=Ap hi (de hx1) ((df.left c1 d1).trans hsx) w
  have p2:=Ap hi (de hy1) ((df.left c2 d2).trans hsy) w
  rw[Y2] at p1 p2
  have s1:=(df.right c1 d1).trans hsx
  have s2:=(df.right c2 d2).trans hsy
  rw[de hx1] at s1
  rw[de hy1] at s2
  have ih:=Gz hg h5 hx2 hy2 s1 s2
  have h6:=hg f.type a h4 x.1 y.1 c1 c2 hx1 hy1
  simp only[Op.eqFields,P5 hn,h1,R3,p1,p2,Q4,h6]
  show _=Result.ok (bO a x.1 y.1 && bO b x.2 y.2) w
  cases bO a x.1 y.1 with
  | false=>simp
  | true =>
   simp only[S1,Bool.false_eq_true,if_false,Bool.true_and]
   exact ih
 | [],.int _,_,h,_,_,_,_,_,_,_,_,_,_=>by cases h
 | [],.bool,_,h,_,_,_,_,_,_,_,_,_,_=>by cases h
 | [],.err,_,h,_,_,_,_,_,_,_,_,_,_=>by cases h
 | [],.fn,_,h,_,_,_,_,_,_,_,_,_,_=>by cases h
 | [],.pt,_,h,_,_,_,_,_,_,_,_,_,_=>by cases h
 | [],.bp _,_,h,_,_,_,_,_,_,_,_,_,_=>by cases h
 | [],.str,_,h,_,_,_,_,_,_,_,_,_,_=>by cases h
 | [],.pair _ _,_,h,_,_,_,_,_,_,_,_,_,_=>by cases h
 | [],.agg _,_,h,_,_,_,_,_,_,_,_,_,_=>by cases h
 | [],.slice _ _,_,h,_,_,_,_,_,_,_,_,_,_=>by cases h
 | _ :: _,.int _,_,h,_,_,_,_,_,_,_,_,_,_=>by cases h
 | _ :: _,.bool,_,h,_,_,_,_,_,_,_,_,_,_=>by cases h
 | _ :: _,.err,_,h,_,_,_,_,_,_,_,_,_,_=>by cases h
 | _ :: _,.fn,_,h,_,_,_,_,_,_,_,_,_,_=>by cases h
 | _ :: _,.pt,_,h,_,_,_,_,_,_,_,_,_,_=>by cases h
 | _ :: _,.bp _,_,h,_,_,_,_,_,_,_,_,_,_=>by cases h
 | _ :: _,.str,_,h,_,_,_,_,_,_,_,_,_,_=>by cases h
 | _ :: _,.unit,_,h,_,_,_,_,_,_,_,_,_,_=>by cases h
 | _ :: _,.agg _,_,h,_,_,_,_,_,_,_,_,_,_=>by cases h
 | _ :: _,.slice _ _,_,h,_,_,_,_,_,_,_,_,_,_=>by cases h
theorem GA {P:Program} {L:Lk} {w:World} : ∀(n:Nat) (T:TypeId) (t:Ty),j6 P n T t=true → ∀(d:Nat) (x y:t.den) (cs ds:List Value),RK L t x cs→RK L t y ds→(Op.equalIn (d+n) T (mk t cs) (mk t ds)).run P w = .ok (bO t x y) w
 | 0,_,_,h=>by simp[j6] at h
 | n+1,T,.int k,h=>fun d x y cs ds hx hy=>by
  rw[show cs=_ from hx,show ds=_ from hy]
  unfold j6 at h
  split at h
  ·rename_i k' hu
   exact run_equalIn_int w (d+n) T k k' x y hu
  ·cases h
 | n+1,T,.bool,h=>fun d x y cs ds hx hy=>by
  rw[show cs=_ from hx,show ds=_ from hy]
  unfold j6 at h
  split at h
  ·rename_i hu
   exact run_equalIn_bool' w (d+n) T x y hu
  ·cases h
 | n+1,T,.str,h=>fun d x y cs ds hx hy=>by
  rw[show cs=_ from hx,show ds=_ from hy]
  unfold j6 at h
  split at h
  ·rename_i hu
   refine(run_equalIn_string w (d+n) T x y hu).trans ?_
   rw[←beq_toListBytes]
   rfl
  ·cases h
 | n+1,T,.agg t,h=>fun d x y cs ds hx hy=>by
  unfold j6 at h
  split at h
  ·rename_i fs hu
   simp only[P8,Z1] at h
   have hf:P.fieldsOf T=fs:=by simp[Program.fieldsOf,hu]
   have hu':P.underlying T=some (.struct (P.fieldsOf T)):=by rw[hf]; exact hu
   refine(run_equalIn_agg w (d+n) T cs.toArray ds.toArray hu' h.1).trans ?_
   rw[hf]
   exact Gz (fun T t hT x y cs ds hx hy=>GA n T t hT d x y cs ds hx hy) h.2 (t:=t) hx hy (df.refl cs) (df.refl ds)
  ·cases h
 | n+1,T,.unit,h=>by simp[j6] at h
 | n+1,T,.err,h=>by simp[j6] at h
 | n+1,T,.fn,h=>by simp[j6] at h
 | n+1,T,.pt,h=>by simp[j6] at h
 | n+1,T,.bp _,h=>by simp[j6] at h
 | n+1,T,.pair _ _,h=>by simp[j6] at h
 | n+1,T,.slice _ _,h=>by simp[j6] at h
def Lm (P:Program) (E:bZ):Bool:=E.eqs.all fun p=>kM p.2 && !(P.eqGuardType P.depth p.1) && j6 P 8 p.1 p.2
theorem MH {P:Program} {E:bZ} (h:Lm P E=true) : ∀ T t,ct E.eqs T=some t→Nx P T t:=by
 intro T t hT
 unfold Lm at h
 rw[W6] at h
 have:=h (T,t) (oc hT)
 simp only[P8,Z1] at this
 refine⟨?_,this.1.2,fun L x y cs ds w hx hy=>GA 8 T t this.2 9992 x y cs ds hx hy⟩
 cases t <;> first | exact⟨_,rfl⟩ | cases this.1.1
def Js (P:Program) (E:bZ):Bool:=Lm P E && (E.ty.all fun p=>Dx P p.1 p.2 && wc P p.1 p.2) && E.by_.all fun p=>Nat.blt 0 p.2 && (match P.info? p.1 with | some i=>U6 i.bytes p.2 | none=>true)
theorem Lo {P:Program} {E:bZ} (h:Js P E=true) (hf : ∀ p∈E.fns,P.funcs[p.2.g]? = some p.2.fn∧p.2.fn.body.isSome=true∧(p.2.fn.name == "runtime.NumGoroutine")=false):dI P E:=by
 unfold Js at h
 simp only[P8,W6] at h
 obtain⟨⟨hq,h1⟩,h2⟩:=h
 have h:=And.intro h1 h2
 refine⟨fun T t hT => ?_,fun e nb i hb hi => ?_,fun g I hg=>hf (g,I) (oc hg),MH hq⟩
 ·have:=h.1 (T,t) (oc hT)
  exact⟨Jr this.1,sA this.2⟩
 ·have:=h.2 (e,nb) (oc hb)
  simp only[hi] at this
  exact⟨T0 this.2,by simpa[Nat.blt_eq] using this.1⟩
end Go.Proofs.YtfffplonjaigkaaGreatDoor.Abs
namespace Go.Proofs.YtfffplonjaigkaaGreatDoor.Abs
open Go Go.RowKit
section
variable {E:bZ} {call call':(I:am)→List SV→az→Option (I.sh.den×I.bx.den)}
theorem oC (hc : ∀ I args tab z,call I args tab=some z→call' I args tab=some z) {g key:Nat} {args:List SV} {res:az} {r0:Nat} {p:SV×Up} (h:en E call g key args res r0 bX=some p):en E call' g key args res r0 bX=some p:=by
 unfold en at h ⊢
 cases hI:ct E.fns key with
 | none=>rw[hI] at h; cases h
 | some I =>
  simp only[hI] at h ⊢
  cases hg:U6 I.g g with
  | false=>rw[hg] at h; cases h
  | true =>
   simp only[hg] at h ⊢
   cases hv:om res (I.fn.params.toList.map fun T=>ct E.ty T) I.own args with
   | none=>rw[hv] at h; cases h
   | some q =>
    obtain⟨args',fr⟩:=q
    simp only[hv] at h ⊢
    split at h
    ·rename_i h1 h2 h3
     rw[P7] at h
     obtain⟨z,hz,h⟩:=h
     rw[P7]
     exact⟨z,hc _ _ _ _ hz,h⟩
    ·cases h
theorem Fx (hc : ∀ I args tab z,call I args tab=some z→call' I args tab=some z) {g:Nat} {args:List SV} {res:az} {r0:Nat} {p:SV×Up} (h:fD E call g args res r0 bX=some p):fD E call' g args res r0 bX=some p:=by
 unfold fD at h ⊢
 split at h
 ·exact oC hc h
 ·rename_i s hs
  rw[P7] at h ⊢
  obtain⟨b,hb,h⟩:=h
  refine⟨b,hb,?_⟩
  split at h
  ·rename_i hb'
   rw[P5 hb']
   exact oC hc h
  ·rename_i hb'
   rw[P4 hb']
   exact oC hc h
theorem Jt (hc : ∀ I args tab z,call I args tab=some z→call' I args tab=some z) {o:Oper} {vs:List SV} {res:az} {r0:Nat} {p:SV×Up} (h:b7 E call o vs res r0 bX=some p):b7 E call' o vs res r0 bX=some p:=by
 obtain⟨dst,op,ty,pos,after,guard⟩:=o
 cases op
 case call c =>
  obtain⟨callee,args,argTypes⟩:=c
  cases callee with
  | value f =>
   rcases vs with _ | ⟨v1,vs⟩
   ·cases h
   ·cases v1 with
    | fn g caps =>
     rcases vs with _ | ⟨v2,_ | ⟨v3,vs⟩⟩ <;> exact Fx hc h
    | _=>rcases vs with _ | ⟨v2,_ | ⟨v3,vs⟩⟩ <;> cases h
  | _=>rcases vs with _ | ⟨v1,_ | ⟨v2,_ | ⟨v3,vs⟩⟩⟩ <;> exact h
 case makeFunc fn first captured=>cases fn <;> rcases vs with _ | ⟨v1,_ | ⟨v2,_ | ⟨v3,vs⟩⟩⟩ <;> exact h
 all_goals rcases vs with _ | ⟨v1,_ | ⟨v2,_ | ⟨v3,_ | ⟨v4,vs⟩⟩⟩⟩ <;> exact h
theorem Hw (hc : ∀ I args tab z,call I args tab=some z→call' I args tab=some z) {R R':Type} {K:SV→Up→Option R} {K':SV→Up→Option R'} {z:R} {z':R'} (hK : ∀ v u,K v u=some z→K' v u=some z') {o:Oper} {vs:List SV} {res:az} {r0:Nat} (h:b7 E call o vs res r0 K=some z):b7 E call' o vs res r0 K'=some z':=by
 obtain⟨v,u,h1,h2⟩:=ut h
 rw[C4,Jt hc h1]
 exact hK v u h2
theorem qq (hc : ∀ I args tab z,call I args tab=some z→call' I args tab=some z) {R:Type} {K K':St→Option R} {z:R} (hK : ∀ σ,K σ=some z→K' σ=some z) {all:Array Oper} {draw:Bool} {base:Nat} :
  ∀ {l:List (Nat×Oper)} {g:List ur} {σ:St},ca E call all draw base l g σ K=some z→ca E call' all draw base l g σ K'=some z
 | [],g,σ,h=>by
  unfold ca at h ⊢
  cases draw with
  | false=>exact hK σ h
  | true =>
   simp only at h ⊢
   split at h
   ·rename_i h1 h2
    exact hK σ h
   ·cases h
 | (i,o) :: l,g,σ,h=>by
  have act : ∀(σ:St) (b:Bool),(match b with
   | true=>b7 E call o ((cK o.op).map (ev σ.slots)) (ez σ.res (iL o σ.res ((cK o.op).map (ev σ.slots)))) (base+64*i) fun v u=>match oq (base+64*i) (iL o σ.res ((cK o.op).map (ev σ.slots))) u with
    | true=>ca E call all draw base l ({i,see:=iL o σ.res ((cK o.op).map (ev σ.slots)),turn:=u.map (·.1)} :: g) (jX σ o.dst v u) K
    | false=>none
   | false=>ca E call all draw base l ({i,see:=[],turn:=[]} :: g) (jX σ o.dst (.tup []) []) K)=some z →
   (match b with
   | true=>b7 E call' o ((cK o.op).map (ev σ.slots)) (ez σ.res (iL o σ.res ((cK o.op).map (ev σ.slots)))) (base+64*i) fun v u=>match oq (base+64*i) (iL o σ.res ((cK o.op).map (ev σ.slots))) u with
    | true=>ca E call' all draw base l ({i,see:=iL o σ.res ((cK o.op).map (ev σ.slots)),turn:=u.map (·.1)} :: g) (jX σ o.dst v u) K'
    | false=>none
   | false=>ca E call' all draw base l ({i,see:=[],turn:=[]} :: g) (jX σ o.dst (.tup []) []) K')=some z:=by
   intro σ b h
   cases b with
   | true =>
    refine Hw hc (fun v u hh => ?_) h
    split at hh
    ·exact qq hc hK hh
    ·cases hh
   | false=>exact qq hc hK h
  unfold ca at h ⊢
  dsimp only at h ⊢
  split at h
  ·exact act σ true h
  ·rename_i j want hg
   split at h
   ·rename_i d hd
    split at h
    ·split at h
     ·rename_i hx
      rw[P5 hx]
      exact act {σ with slots:=cx σ.slots d (.val .bool true)} (true == want) h
     ·rename_i hx
      rw[P4 hx]
      exact act {σ with slots:=cx σ.slots d (.val .bool false)} (false == want) h
    ·exact act σ false h
    ·cases h
   ·cases h
theorem xw (E:bZ) : ∀ {k m:Nat},k≤m → ∀ {I:am} {R:Type} {K K':St→Option R} {c:Code} {S:List Fr} {σ:St} {z:R},(∀ σ,K σ=some z→K' σ=some z)→run E k I K c S σ=some z→run E m I K' c S σ=some z
 | 0,_,_,_,_,_,_,_,_,_,_,_,h=>by cases h
 | k+1,0,hle,_,_,_,_,_,_,_,_,_,_=>S0 hle (by omega)
 | k+1,m+1,hle,I,R,K,K',c,S,σ,z,hK,h=>by
  have ih : ∀ {I:am} {R:Type} {K K':St→Option R} {c:Code} {S:List Fr} {σ:St} {z:R},(∀ σ,K σ=some z→K' σ=some z)→run E k I K c S σ=some z→run E m I K' c S σ=some z:=fun hK h=>xw E (Nat.le_of_succ_le_succ hle) hK h
  have ihp : ∀ {S:List Fr} {σ:St},ot (run E k) I K S σ=some z→ot (run E m) I K' S σ=some z:=by
   intro S σ h
   cases S with
   | nil=>exact hK σ h
   | cons f S=>cases f <;> exact ih hK h
  have ihc : ∀ I args tab z,dq E (run E k) I args tab=some z→dq E (run E m) I args tab=some z:=fun I args tab z h=>by
   unfold dq at h ⊢
   split at h
   ·exact h
   ·exact ih (fun σ h=>h) h
  rw[j0] at h ⊢
  unfold na at h ⊢
  split at h
  ·exact ihp h
  ·dsimp only at h ⊢
   exact qq ihc (fun σ' h'=>ihp h') h
  ·exact ih hK h
  ·split at h
   ·split at h
    ·rename_i hx
     rw[P5 hx]
     exact ih hK h
    ·rename_i hx
     rw[P4 hx]
     exact ih hK h
   ·cases h
  ·exact ih hK h
  ·exact ih hK h
  ·split at h
   ·exact ih hK h
   ·cases h
  ·exact hK σ h
  ·cases h
end
theorem Ju {E:bZ} {k m:Nat} (hm:k≤m) {I:am} {args:List SV} {tab:az} {z:I.sh.den×I.bx.den} (h:call E k I args tab=some z):call E m I args tab=some z:=by
 unfold call dq at h ⊢
 split at h
 ·exact h
 ·exact xw E hm (fun _ h=>h) h
end Go.Proofs.YtfffplonjaigkaaGreatDoor.Abs
namespace Go.Proofs.YtfffplonjaigkaaGreatDoor.Abs
open Go Go.RowKit
def Ev {R:Type} (f:Nat→Option R) (z:R):Prop := ∃ k0,∀ k,k0≤k→f k=some z
section
variable {R R':Type} {f:Nat→Option R} {z:R}
theorem Ev.now:Ev (fun _=>some z) z:=⟨0,fun _ _=>rfl⟩
theorem Ev.later (h:Ev f z) (c:Nat):Ev (fun k=>f (k+c)) z:=by
 obtain⟨k0,h⟩:=h
 exact⟨k0,fun k hk=>h _ (by omega)⟩
theorem Ev.eqn {g:Nat→Option R} (c:Nat) (he : ∀ k,f (k+c)=g k) (h:Ev g z):Ev f z:=by
 obtain⟨k0,h⟩:=h
 refine⟨k0+c,fun k hk => ?_⟩
 have:=he (k - c)
 rw[show k - c+c=k by omega] at this
 rw[this]
 exact h _ (by omega)
theorem Ev.bind {g:R→Nat→Option R'} {y:R'} (h:Ev f z) (k:Ev (g z) y):Ev (fun n=>(f n).bind fun x=>g x n) y:=by
 obtain⟨a,h⟩:=h
 obtain⟨b,k⟩:=k
 refine⟨a+b,fun n hn => ?_⟩
 show(f n).bind _=_
 rw[h n (by omega)]
 exact k n (by omega)
theorem Ev.ite {c:Prop} [Decidable c] {g:Nat→Option R} (h1:c→Ev f z) (h2 : ¬c→Ev g z):Ev (fun k=>if c then f k else g k) z:=by
 by_cases h:c
 ·obtain⟨k0,hk⟩:=h1 h
  exact⟨k0,fun k hh=>by simp only[P5 h]; exact hk k hh⟩
 ·obtain⟨k0,hk⟩:=h2 h
  exact⟨k0,fun k hh=>by simp only[P4 h]; exact hk k hh⟩
theorem Ev.pos {c:Prop} [Decidable c] {g:Nat→Option R} (hc:c) (h1:Ev f z):Ev (fun k=>if c then f k else g k) z:=Ev.ite (fun _=>h1) (fun h=>S0 hc h)
theorem Ev.neg {c:Prop} [Decidable c] {g:Nat→Option R} (hc : ¬c) (h1:Ev g z):Ev (fun k=>if c then f k else g k) z:=Ev.ite (fun h=>S0 h hc) (fun _=>h1)
end
def oD (E:bZ) (I:am) (args:List SV) (tab:az) (z:I.sh.den×I.bx.den):Prop:=Ev (fun k=>call E k I args tab) z
theorem oD.at_ {E:bZ} {I:am} {args:List SV} {tab:az} {z:I.sh.den×I.bx.den} (h:oD E I args tab z) : ∃ k,call E k I args tab=some z:=by
 obtain⟨k,h⟩:=h
 exact⟨k,h k (Q6 _)⟩
theorem oD.of {E:bZ} {I:am} {args:List SV} {tab:az} {z:I.sh.den×I.bx.den} {k:Nat} (h:call E k I args tab=some z):oD E I args tab z :=
 ⟨k,fun m hm=>Ju hm h⟩
theorem oD.calls {P:Program} {E:bZ} {Gp:WP} (hst:yD Gp) (hm:P.follows .mixedOrders=true) (hE:dI P E) (hP:rf Gp P E) {I:am} {args:List SV} {tab:az} {z:I.sh.den×I.bx.den} (h:oD E I args tab z) {key:Nat} (hg:ct E.fns key=some I) (hcanon : ∀(k:Nat) (p:Nat×aN),tab[k]? = some p→p.1=k)
  {w:World} {γ:Nat→Option G} {Pr:Nat→Nat→Prop} {us:List Value} (hGp:Gp w (ju tab γ)) (hI:bc w (ju tab γ) Pr args (ap tab) γ Pr {tmps:=us.toArray,defers:=[]} w) (hlim : ∀ r,tab.length≤r→γ r=none) {N:Nat} (hN:tab.length≤N) {vs bs:List SV} {u u':Up} {n n':Nat} {ub:List (Option aN)}
  (h1:bB I.sh z.1 N=(vs,u,n)) (h2:bB I.bx z.2 n=(bs,u',n')) (h3:bW I.rb tab bs (ml I.bx)=some ub) :
  Calls P I.g us.toArray w fun e w' => ∃ vals γr Pr',e = .returned (uB vals)∧sw w (ju tab γ) γ Pr N n' vs ub (u++u') vals γr Pr' w' ∧ ∀ p∈cu I.rb tab bs,γr p.1=γ p.2:=by
 obtain⟨k,hk⟩:=h.at_
 exact Jq hst hm hE hP k I args tab z key hg hk hcanon w γ Pr us hGp hI hlim N hN vs u n bs u' n' ub h1 h2 h3
end Go.Proofs.YtfffplonjaigkaaGreatDoor.Abs
namespace Go.Proofs.YtfffplonjaigkaaGreatDoor.Abs
open Go
def kids:Code→List Code
 | .seq a b=>[a,b]
 | .cond _ a b=>[a,b]
 | .block _ a=>[a]
 | .loop a=>[a]
 | _=>[]
def at_:Code→List Nat→Code
 | c,[]=>c
 | c,i :: l=>match kids c,i with
  | a :: _,0=>at_ a l
  | [_,b],1=>at_ b l
  | _,_ => .skip
instance (t:Ty):Inhabited t.den:=⟨t.dflt⟩
def fm (n:Int):P0:=⟨(Lib.itoa n).toArray⟩
def we:List SV→az→Option ((Sh.pair (.val .str) .unit).den×Sh.unit.den)
 | [.val (.int .i64) n,.val (.int .i64) b],[]=>if(b:Int)=10 ∧ -9223372036854775808≤(n:Int)∧(n:Int)≤9223372036854775807 then some ((fm n,()),()) else none
 | _,_=>none
def mJ (c:P0):Bool:=decide (c.size≤1000) && c.data.toList.all fun b=>decide (b.toNat < 128)
def k6:List SV→az→Option ((Sh.pair (.val .str) .unit).den×Sh.unit.den)
 | [.val .str s,.val .str c],[]=>if mJ c=true then some ((⟨(Lib.trimLeftS (s:P0).data.toList (c:P0).data.toList).toArray⟩,()),()) else none
 | _,_=>none
def sB:List SV→az→Option ((Sh.pair (.val .str) .unit).den×Sh.unit.den)
 | [.val .str s,.val .str c],[]=>if mJ c=true∧(s:P0).size≤9223372036854775807 then some ((⟨(Lib.trimS (s:P0).data.toList (c:P0).data.toList).toArray⟩,()),()) else none
 | _,_=>none
def wg:List SV→az→Option ((Sh.pair (.val .str) (.pair (.val .str) (.pair (.val .bool) .unit))).den×Sh.unit.den)
 | [.val .str s,.val .str c],[]=>if(s:P0).size < 4294967281 then some ((⟨(Lib.cut (s:P0).data.toList (c:P0).data.toList).1.toArray⟩,⟨(Lib.cut (s:P0).data.toList (c:P0).data.toList).2.1.toArray⟩,(Lib.cut (s:P0).data.toList (c:P0).data.toList).2.2,()),()) else none
 | _,_=>none
def mr:List SV→az→Option ((Sh.pair (.val .str) .unit).den×Sh.unit.den)
 | [.val .str s,.val .str a,.val .str b],[]=>if(s:P0).size < 4294967281∧1≤(a:P0).size∧(s:P0).size+Lib.countB s a*(b:P0).size≤140737488355328 then some ((⟨(Lib.replaceAll (s:P0).data.toList (a:P0).data.toList (b:P0).data.toList).toArray⟩,()),()) else none
 | _,_=>none
def sC (e:TypeId):List SV→az→Option ((Sh.pair (.val .str) .unit).den×Sh.unit.den)
 | [.val t xs,.val .str c],[]=>(g9? (t:=t) (.slice e .str) xs).bind fun xs=>if(xs:List P0).length≤140737488355328∧(Lib.join ((xs:List P0).map (·.data.toList)) (c:P0).data.toList).length≤140737488355328 then some ((⟨(Lib.join ((xs:List P0).map (·.data.toList)) (c:P0).data.toList).toArray⟩,()),()) else none
 | _,_=>none
def bP (l:List UInt8):Int×Bool:=match Lib.parseIntB 64 l with
 | .ok v=>(v,true)
 | .range=>(Lib.intSat 64 l,false)
 | _=>(0,false)
def k7:List SV→az→Option ((Sh.pair (.val (.int .i64)) (.pair (.val .err) .unit)).den×Sh.unit.den)
 | [.val .str s,.val (.int .i64) b,.val (.int .i64) n],[]=>if(s:P0).size≤281474976710656∧(b:Int)=10∧(n:Int)=64 then some (((bP (s:P0).data.toList).1,(bP (s:P0).data.toList).2,()),()) else none
 | _,_=>none
open Go Go.RowKit
theorem Ev.uniq {R:Type} {f:Nat→Option R} {z z':R} (h:Ev f z) (h':Ev f z'):z=z':=by
 obtain⟨a,h⟩:=h
 obtain⟨b,h'⟩:=h'
 have h1:=h (a+b) (by omega)
 rw[h' (a+b) (by omega)] at h1
 exact(U9 h1).symm
open Classical in
noncomputable def lim {R:Type} (f:Nat→Option R):Option R:=if h : ∃ z,Ev f z then some h.choose else none
theorem Lp {R:Type} {f:Nat→Option R} {z:R}:lim f=some z↔Ev f z:=by
 unfold lim
 constructor
 ·intro h
  split at h
  ·rename_i hz
   have:=hz.choose_spec
   rw[U9 h] at this
   exact this
  ·cases h
 ·intro h
  have hz : ∃ z,Ev f z:=⟨z,h⟩
  rw[dif_pos hz,hz.choose_spec.uniq h]
noncomputable def hO (E:bZ):jk:=fun I _ K c S σ=>lim fun k=>run E k I K c S σ
theorem pT {E:bZ} {I:am} {R:Type} {K:St→Option R} {c:Code} {S:List Fr} {σ:St} {z:R}:hO E I K c S σ=some z ↔ ∃ k,∀ m,k≤m→run E m I K c S σ=some z:=Lp
theorem GB {E:bZ} {I:am} {R:Type} {K:St→Option R} {c:Code} {S:List Fr} {σ:St} {z:R} {k:Nat} (h:run E k I K c S σ=some z):hO E I K c S σ=some z :=
 pT.2 ⟨k,fun m hm=>xw E hm (fun _ h=>h) h⟩
section
variable {E:bZ} {call:(I:am)→List SV→az→Option (I.sh.den×I.bx.den)} {call':Nat→(I:am)→List SV→az→Option (I.sh.den×I.bx.den)}
theorem oE (hc : ∀ I args tab z,call I args tab=some z → ∃ k,∀ m,k≤m→call' m I args tab=some z) {g key:Nat} {args:List SV} {res:az} {r0:Nat} {p:SV×Up} (h:en E call g key args res r0 bX=some p) : ∃ k,∀ m,k≤m→en E (call' m) g key args res r0 bX=some p:=by
 unfold en at h ⊢
 cases hI:ct E.fns key with
 | none=>rw[hI] at h; cases h
 | some I =>
  simp only[hI] at h ⊢
  cases hg:U6 I.g g with
  | false=>rw[hg] at h; cases h
  | true =>
   simp only[hg] at h ⊢
   cases hv:om res (I.fn.params.toList.map fun T=>ct E.ty T) I.own args with
   | none=>rw[hv] at h; cases h
   | some q =>
    obtain⟨args',fr⟩:=q
    simp only[hv] at h ⊢
    split at h
    ·rename_i h1 h2 h3
     rw[P7] at h
     obtain⟨z,hz,h⟩:=h
     obtain⟨k,hk⟩:=hc _ _ _ _ hz
     refine⟨k,fun m hm => ?_⟩
     rw[P7]
     exact⟨z,hk m hm,h⟩
    ·cases h
theorem Fy (hc : ∀ I args tab z,call I args tab=some z → ∃ k,∀ m,k≤m→call' m I args tab=some z) {g:Nat} {args:List SV} {res:az} {r0:Nat} {p:SV×Up} (h:fD E call g args res r0 bX=some p) : ∃ k,∀ m,k≤m→fD E (call' m) g args res r0 bX=some p:=by
 unfold fD at h ⊢
 split at h
 ·exact oE hc h
 ·rename_i s hs
  rw[P7] at h
  obtain⟨b,hb,h⟩:=h
  split at h
  ·rename_i hb'
   obtain⟨k,hk⟩:=oE hc h
   refine⟨k,fun m hm => ?_⟩
   rw[P7]
   refine⟨b,hb,?_⟩
   rw[P5 hb']
   exact hk m hm
  ·rename_i hb'
   obtain⟨k,hk⟩:=oE hc h
   refine⟨k,fun m hm => ?_⟩
   rw[P7]
   refine⟨b,hb,?_⟩
   rw[P4 hb']
   exact hk m hm
theorem Jv (hc : ∀ I args tab z,call I args tab=some z → ∃ k,∀ m,k≤m→call' m I args tab=some z) {o:Oper} {vs:List SV} {res:az} {r0:Nat} {p:SV×Up} (h:b7 E call o vs res r0 bX=some p) : ∃ k,∀ m,k≤m→b7 E (call' m) o vs res r0 bX=some p:=by
 obtain⟨dst,op,ty,pos,after,guard⟩:=o
 cases op
 case call c =>
  obtain⟨callee,args,argTypes⟩:=c
  cases callee with
  | value f =>
   rcases vs with _ | ⟨v1,vs⟩
   ·cases h
   ·cases v1 with
    | fn g caps =>
     rcases vs with _ | ⟨v2,_ | ⟨v3,vs⟩⟩ <;> exact Fy hc h
    | _=>rcases vs with _ | ⟨v2,_ | ⟨v3,vs⟩⟩ <;> cases h
  | _=>rcases vs with _ | ⟨v1,_ | ⟨v2,_ | ⟨v3,vs⟩⟩⟩ <;> exact⟨0,fun _ _=>h⟩
 case makeFunc fn first captured=>cases fn <;> rcases vs with _ | ⟨v1,_ | ⟨v2,_ | ⟨v3,vs⟩⟩⟩ <;> exact⟨0,fun _ _=>h⟩
 all_goals rcases vs with _ | ⟨v1,_ | ⟨v2,_ | ⟨v3,_ | ⟨v4,vs⟩⟩⟩⟩ <;> exact⟨0,fun _ _=>h⟩
def Hx (E:bZ) (call:(I:am)→List SV→az→Option (I.sh.den×I.bx.den)) {R:Type} (all:Array Oper) (draw:Bool) (base i:Nat) (o:Oper) (l:List (Nat×Oper)) (g:List ur) (K:St→Option R) (σ:St) (b:Bool):Option R:=match b with
 | true=>b7 E call o ((cK o.op).map (ev σ.slots)) (ez σ.res (iL o σ.res ((cK o.op).map (ev σ.slots)))) (base+64*i) fun v u=>match oq (base+64*i) (iL o σ.res ((cK o.op).map (ev σ.slots))) u with
  | true=>ca E call all draw base l ({i,see:=iL o σ.res ((cK o.op).map (ev σ.slots)),turn:=u.map (·.1)} :: g) (jX σ o.dst v u) K
  | false=>none
 | false=>ca E call all draw base l ({i,see:=[],turn:=[]} :: g) (jX σ o.dst (.tup []) []) K
theorem qr (hc : ∀ I args tab z,call I args tab=some z → ∃ k,∀ m,k≤m→call' m I args tab=some z) {R:Type} {K:St→Option R} {K':Nat→St→Option R} {z:R} (hK : ∀ σ,K σ=some z → ∃ k,∀ m,k≤m→K' m σ=some z) {all:Array Oper} {draw:Bool} {base:Nat} :
  ∀ {l:List (Nat×Oper)} {g:List ur} {σ:St},ca E call all draw base l g σ K=some z → ∃ k,∀ m,k≤m→ca E (call' m) all draw base l g σ (K' m)=some z
 | [],g,σ,h=>by
  unfold ca at h ⊢
  cases draw with
  | false=>exact hK σ h
  | true =>
   simp only at h ⊢
   split at h
   ·rename_i h1 h2
    exact hK σ h
   ·cases h
 | (i,o) :: l,g,σ,h=>by
  have act : ∀(σ:St) (b:Bool),Hx E call all draw base i o l g K σ b=some z → ∃ k,∀ m,k≤m→Hx E (call' m) all draw base i o l g (K' m) σ b=some z:=by
   unfold Hx
   intro σ b h
   cases b with
   | true =>
    obtain⟨v,u,h1,h2⟩:=ut h
    obtain⟨k1,hk1⟩:=Jv hc h1
    split at h2
    ·rename_i hs
     obtain⟨k2,hk2⟩:=qr hc hK h2
     refine⟨k1+k2,fun m hm => ?_⟩
     rw[C4,hk1 m (by omega)]
     simp only[P1,hs]
     exact hk2 m (by omega)
    ·cases h2
   | false=>exact qr hc hK h
  unfold ca at h
  simp only[ca]
  dsimp only at h ⊢
  split at h
  ·exact act σ true h
  ·rename_i j want hg
   split at h
   ·rename_i d hd
    split at h
    ·split at h
     ·rename_i hx
      simp only[P5 hx]
      exact act {σ with slots:=cx σ.slots d (.val .bool true)} (true == want) h
     ·rename_i hx
      simp only[P4 hx]
      exact act {σ with slots:=cx σ.slots d (.val .bool false)} (false == want) h
    ·exact act σ false h
    ·cases h
   ·cases h
theorem Bu {rec:jk} {rec':Nat→jk} {I:am} {R:Type} {K:St→Option R} (hr : ∀(I:am) (R:Type) (K:St→Option R) c S σ z,rec I K c S σ=some z → ∃ k,∀ m,k≤m→rec' m I K c S σ=some z) {c:Code} {S:List Fr} {σ:St} {z:R} (h:na E rec I K c S σ=some z) : ∃ k,∀ m,k≤m→na E (rec' m) I K c S σ=some z:=by
 have ihp : ∀ {S:List Fr} {σ:St},ot rec I K S σ=some z → ∃ k,∀ m,k≤m→ot (rec' m) I K S σ=some z:=by
  intro S σ h
  cases S with
  | nil=>exact⟨0,fun _ _=>h⟩
  | cons f S=>cases f <;> exact hr _ _ _ _ _ _ _ h
 have ihc : ∀ I args tab z,dq E rec I args tab=some z → ∃ k,∀ m,k≤m→dq E (rec' m) I args tab=some z:=fun I args tab z h=>by
  unfold dq at h ⊢
  split at h
  ·exact⟨0,fun _ _=>h⟩
  ·exact hr _ _ _ _ _ _ _ h
 unfold na at h ⊢
 split at h
 ·exact ihp h
 ·dsimp only at h ⊢
  exact qr ihc (K':=fun m σ'=>ot (rec' m) I K S {σ' with nx:=_}) (fun σ' h'=>ihp h') h
 ·exact hr _ _ _ _ _ _ _ h
 ·split at h
  ·split at h
   ·rename_i hx
    simp only[P5 hx]
    exact hr _ _ _ _ _ _ _ h
   ·rename_i hx
    simp only[P4 hx]
    exact hr _ _ _ _ _ _ _ h
  ·cases h
 ·exact hr _ _ _ _ _ _ _ h
 ·exact hr _ _ _ _ _ _ _ h
 ·split at h
  ·exact hr _ _ _ _ _ _ _ h
  ·cases h
 ·exact⟨0,fun _ _=>h⟩
 ·cases h
end
theorem Lq {E:bZ} {I:am} {R:Type} {K:St→Option R} {c:Code} {S:List Fr} {σ:St}:hO E I K c S σ=na E (hO E) I K c S σ:=by
 refine Option.ext fun z=>⟨fun h => ?_,fun h => ?_⟩
 ·obtain⟨k,hk⟩:=pT.1 h
  have h1:=hk (k+1) (by omega)
  rw[j0] at h1
  obtain⟨_,h2⟩:=Bu (rec':=fun _=>hO E) (fun _ _ _ _ _ _ _ h=>⟨0,fun _ _=>GB h⟩) h1
  exact h2 _ (Q6 _)
 ·obtain⟨k,hk⟩:=Bu (rec':=fun m=>run E m) (fun _ _ _ _ _ _ _ h=>pT.1 h) h
  exact GB (k:=k+1) (by rw[j0]; exact hk k (Q6 _))
def Jw (E:bZ) (rc rec:jk) (I:am) {R:Type} (K:St→Option R) (c:Code) (S:List Fr) (σ:St):Option R:=match c with
 | .region id ops draw=>ca {E with sub:=I.sub} (dq E rc) ops draw σ.nx ((Y0 ops.size).zip ops.toList) [] σ fun σ'=>ot rec I K S {σ' with nx:=σ.nx+64*ops.size}
 | _=>none
theorem Mm : ∃ f:(E:bZ)→(rc:jk)→(I:am)→(R:Type)→(St→Option R)→Code→List Fr→St→Option R,∀ E rc I R K c S σ,f E rc I R K c S σ=Jw E rc rc I K c S σ :=
 ⟨fun E rc I R K c S σ=>Jw E rc rc I K c S σ,fun _ _ _ _ _ _ _ _=>rfl⟩
noncomputable def pt (E:bZ) (rc:jk) (I:am) {R:Type} (K:St→Option R) (c:Code) (S:List Fr) (σ:St):Option R:=Classical.choose Mm E rc I R K c S σ
theorem Mn {E:bZ} {rc:jk} {I:am} {R:Type} {K:St→Option R} {c:Code} {S:List Fr} {σ:St}:pt E rc I K c S σ=Jw E rc rc I K c S σ:=Classical.choose_spec Mm E rc I R K c S σ
noncomputable def CQ (E:bZ) (rc rec:jk):jk:=fun I _ K c S σ=>match c with
 | .skip=>ot rec I K S σ
 | .region id ops draw=>match ct I.live id with
  | some l=>pt E rc I K (.region id ops draw) S (norm l σ)
  | none=>Jw E rc rec I K (.region id ops draw) S σ
 | .seq a b=>rec I K a (.seq b :: S) σ
 | .cond c a b=>match ev σ.slots c with
  | .val .bool x=>if x=true then rec I K a S σ else rec I K b S σ
  | _=>none
 | .block id b=>rec I K b (.block id :: S) σ
 | .loop b=>rec I K b (.loop b :: S) σ
 | .exit id=>match sj I id S with | some S'=>rec I K .skip S' σ | none=>none
 | .ret=>K σ
 | _=>none
noncomputable def CR (E:bZ) (rc:jk) (n:Nat):jk:=Nat.rec rc (fun _ rec=>CQ E rc rec) n
theorem Lr {E:bZ}:CQ E (hO E) (hO E)=hO E:=by
 funext I R K c S σ
 rw[Lq]
 unfold CQ na
 cases c <;> try rfl
 rename_i id ops draw
 dsimp only
 cases ct I.live id with
 | none=>rfl
 | some l=>exact Mn
theorem xx {E:bZ} : ∀ n,CR E (hO E) n=hO E
 | 0=>rfl
 | n+1=>by
  show CQ E (hO E) (CR E (hO E) n)=_
  rw[xx n,Lr]
noncomputable def ai (E:bZ) (I:am) (args:List SV) (tab:az):Option (I.sh.den×I.bx.den):=dq E (hO E) I args tab
theorem aB {E:bZ} {I:am} {args:List SV} {tab:az} {z:Option (I.sh.den×I.bx.den)} (h:dq E (CR E (hO E) 4000) I args tab=z:=by kernel_rfl):ai E I args tab=z:=by
 rw[←h,xx]
 rfl
theorem bI {E:bZ} {I:am} {R:Type} {K:St→Option R} {c:Code} {S:List Fr} {σ:St} {z:Option R} (h:Jw E (hO E) (CR E (hO E) 4000) I K c S σ=z:=by kernel_rfl):pt E (hO E) I K c S σ=z:=by
 rw[←h,xx]
 exact Mn
theorem oD.ofL {E:bZ} {I:am} {args:List SV} {tab:az} {z:I.sh.den×I.bx.den} (h:ai E I args tab=some z):oD E I args tab z:=by
 unfold ai dq at h
 unfold oD call dq
 split at h
 ·exact⟨0,fun _ _=>h⟩
 ·exact pT.1 h
end Go.Proofs.YtfffplonjaigkaaGreatDoor.Abs
namespace Go.Proofs.YtfffplonjaigkaaGreatDoor.Abs
open Go
section
variable {α β:Type}
def ix (xs:List α) (i:Int) (d:α) (f:α→Option β):Option β:=if 0≤i then(if i < (xs.length:Int) then f (xs.getD i.toNat d) else none) else none
def inb (xs:List α) (i:Int) (k:Option β):Option β:=if 0≤i then(if i < (xs.length:Int) then k else none) else none
def da (s:P0) (i:Int) (f:Int→Option β):Option β:=if 0≤i then(if i < (s.size:Int) then f (bt s i) else none) else none
def cats (a b:P0) (f:P0→Option β):Option β:=if a.size+b.size≤9223372036854775807 then f (a++b) else none
def app (a b:List α) (n:Nat) (f:List α→Option β):Option β:=if(a.length+b.length)*n≤140737488355328 then f (a++b) else none
def wP (s:P0) (h:Int) (f:P0→Option β):Option β:=if 0≤h then(if h≤(s.size:Int) then f (s.extract 0 h.toNat) else none) else none
def gc (s:P0) (l:Int) (f:P0→Option β):Option β:=if 0≤l then(if l≤(s.size:Int) then f (s.extract l.toNat s.size) else none) else none
def pU (s:P0) (l h:Int) (f:P0→Option β):Option β:=if 0≤h then(if h≤(s.size:Int) then(if 0≤l then(if l≤h then f (s.extract l.toNat h.toNat) else none) else none) else none) else none
def Dy (d:α) (xs:List α) (i:Int) (f:α→α) (k:List α→β):β:=k (xs.set i.toNat (f (xs.getD i.toNat d)))
def nz (b:Int) (k:Option β):Option β:=if b=0 then none else k
end
def Hy:Nat→Nat→List Nat→List Nat
 | 0,_,l=>l
 | k+1,n,l=>match Nat.ble n 1 with
  | true=>l
  | false=>Hy k (n / 2) (n % 2 :: l)
def Bv (c:Code) (l:List Nat) (S:List Fr):Code×List Fr:=match l with
 | []=>(c,S)
 | i :: l=>match c,i with
  | .seq a b,0=>Bv a l (.seq b :: S)
  | .seq _ b,1=>Bv b l S
  | .cond _ a _,0=>Bv a l S
  | .cond _ _ b,1=>Bv b l S
  | .block id b,0=>Bv b l (.block id :: S)
  | .loop b,0=>Bv b l (.loop b :: S)
  | _,_=>(.skip,[])
noncomputable abbrev bJ (E:bZ) (I:am) (tab:az) (c:Code) (n:Nat) (σ:St):Option (I.sh.den×I.bx.den):=pt E (hO E) I (gu E I tab) (Bv c (Hy 200 n []) []).1 (Bv c (Hy 200 n []) []).2 σ
abbrev ag (x:Int):SV := .val (.int .i64) x
abbrev cI (x:Bool):SV := .val .bool x
abbrev aL (x:P0):SV := .val .str x
abbrev aa:SV := .undef
abbrev al (g:Nat) (fn:Func) (sh bx:Sh) (own:List Bool) (live:List (Nat×List Nat)):am:={g,fn,sh,bx,own,live}
def kv (e:TypeId):List SV→az→Option (Sh.unit.den×(Sh.pair (.row e (.int .i64) false) .unit).den)
 | [.row 0],[(0,.row e' s xs false)]=>(g9? (t := .slice e' s) (.slice e (.int .i64)) xs).bind fun xs=>if(xs:List Int).length < 4611686018427387904 then some ((),(xs:List Int).mergeSort (fun x y=>decide (x≤y)),()) else none
 | _,_=>none
theorem wr {n:Int} (h0 : -9223372036854775808≤n) (h1:n≤9223372036854775807):IntKind.i64.wrap n=n:=by
 simp only[IntKind.wrap,IntKind.bits,IntKind.signed]
 simp
 omega
theorem toList_inj {a b:P0} (h:a.toList=b.toList):a=b:=by
 rw[ByteArray.toList_eq,ByteArray.toList_eq] at h
 cases a
 cases b
 congr
 exact X9.1 h
@[simp] theorem kw {a b:P0}:(P2 a == P2 b)=decide (a=b):=by
 by_cases h:a=b
 ·subst h
  simp
 ·rw[decide_eq_false h]
  have:P2 a≠P2 b:=fun e=>h (toList_inj e)
  simpa using this
theorem iW {α:Type} {l r:List α} {y d:α}:List.getD (l++y :: r) (S6 (l.length:Int)) d=y:=by
 simp[List.getD_eq_getElem?_getD]
theorem NJ {α:Type} {l r:List α} {y z:α}:List.set (l++y :: r) (S6 (l.length:Int)) z=l++z :: r:=by
 simp
theorem Ls {α:Type} {l:List α} {y:α}:((l.length:Nat):Int)+1=((l++[y]).length:Int):=by simp
theorem Dz {α:Type} {l r:List α} {y:α}:((l.length:Nat):Int) < ((l++y :: r).length:Int):=by
 simp only[P6,Q1]
 omega
theorem nn (n:Nat):(0:Int)≤(n:Int):=Int.natCast_nonneg n
theorem Ev.val {R:Type} {x z:R} (h:x=z):Ev (fun _=>some x) z:=h ▸ Ev.now
open Go Go.RowKit Go.ChangeShapes Go.WideShapes
def uH:(t:Ty)→t.den→Prop
 | .int k,n=>(Lit.int k n).wf=true
 | .bool,_=>True
 | .err,_=>True
 | .fn,_=>True
 | .pt,_=>True
 | .bp _,_=>True
 | .str,s=>(s:P0).size≤maxLen
 | .unit,_=>True
 | .pair a b,x=>uH a x.1∧uH b x.2
 | .agg t,x=>uH t x
 | .slice _ t,xs=>(xs:List t.den).length≤maxLen ∧ ∀ x∈(xs:List t.den),uH t x
def yP (P:Program) (g:TypeId→Ty→Bool):List Field→Ty→Nat→Bool
 | [],.unit,_=>true
 | f :: fs,.pair a b,o=>U6 f.offset o && U6 (P.cellsOf f.type) a.sz && g f.type a && yP P g fs b (o+a.sz)
 | _,_,_=>false
def eu (P:Program):Nat→TypeId→Ty→Bool
 | 0,_,_=>false
 | _+1,T,.int k=>match P.underlying T with | some (.int k')=>decide (k'=k) | _=>false
 | _+1,T,.bool=>match P.underlying T with | some .bool=>true | _=>false
 | _+1,T,.str=>match P.underlying T with | some .string=>true | _=>false
 | d+1,T,.slice e t=>match P.underlying T with | some (.slice e')=>U6 e' e && U6 (P.cellsOf e) t.sz && Nat.blt 0 t.sz && eu P d e t | _=>false
 | d+1,T,.agg t=>match P.underlying T with
  | some (.struct fs)=>U6 (P.cellsOf T) t.sz && yP P (eu P d) fs.toList t 0
  | _=>false
 | _,_,_=>false
theorem Bw {α:Type} {Q:Nat→α→Prop} : ∀(n:Nat),(∀ i,i < n → ∃ y,Q i y) → ∃ ys:List α,ys.length=n ∧ ∀ i (h:i < ys.length),Q i ys[i]
 | 0,_=>⟨[],rfl,fun i h=>by simp at h⟩
 | n+1,h=>by
  obtain⟨ys,h1,h2⟩:=Bw n (fun i hi=>h i (by omega))
  obtain⟨y,hy⟩:=h n (by omega)
  refine⟨ys++[y],by simp[h1],fun i hi => ?_⟩
  by_cases hin:i < ys.length
  ·rw[List.getElem_append_left hin]
   exact h2 i hin
  ·rw[P6,List.length_singleton] at hi
   have:i=n:=by omega
   subst this
   rw[List.getElem_append_right (by omega)]
   simpa[h1] using hy
section
variable {H:Type} {enc:TypeId×Value→H} {P:Program} {w:World} {base:Nat} {sp:Nat→Bool} {held:Bool}
theorem DA {g:TypeId→Ty→Bool} {n:Nat} (hg : ∀ T t,g T t=true → ∀ cs x,DataW.trod enc P w base sp held n T cs=some x → ∃ y:t.den,RK (wK w) t y cs∧uH t y) :
  ∀ {fs:List Field} {t:Ty} {o:Nat} {cs:List Value},yP P g fs t o=true→cs.length=o+t.sz→(∀ f∈fs,∃ x,DataW.trod enc P w base sp held n f.type ((cs.drop f.offset).take (P.cellsOf f.type))=some x) → ∃ y:t.den,RK (wK w) t y (cs.drop o)∧uH t y
 | [],.unit,o,cs,_,hl,_=>⟨(),by
   show cs.drop o=[]
   exact List.drop_eq_nil_of_le (by rw[hl]; exact Q6 _),trivial⟩
 | f :: fs,.pair a b,o,cs,h,hl,hf=>by
  simp only[yP,P8] at h
  obtain⟨⟨⟨h1,h2⟩,h3⟩,h4⟩:=h
  have h1:=T0 h1
  have h2:=T0 h2
  obtain⟨x,hx⟩:=hf f (by simp)
  rw[h1,h2] at hx
  obtain⟨y1,k1,m1⟩:=hg f.type a h3 _ _ hx
  have hl':cs.length=o+a.sz+b.sz:=by
   rw[hl,W5]
   rfl
  obtain⟨y2,k2,m2⟩:=DA hg (fs:=fs) (t:=b) (o:=o+a.sz) (cs:=cs) h4 hl' (fun f hf'=>hf f (Q5 _ hf'))
  refine⟨(y1,y2),⟨(cs.drop o).take a.sz,cs.drop (o+a.sz),?_,k1,k2⟩,m1,m2⟩
  rw[←List.drop_drop,List.take_append_drop]
 | [],.int _,_,_,h,_,_=>by cases h
 | [],.bool,_,_,h,_,_=>by cases h
 | [],.err,_,_,h,_,_=>by cases h
 | [],.fn,_,_,h,_,_=>by cases h
 | [],.pt,_,_,h,_,_=>by cases h
 | [],.bp _,_,_,h,_,_=>by cases h
 | [],.str,_,_,h,_,_=>by cases h
 | [],.pair _ _,_,_,h,_,_=>by cases h
 | [],.agg _,_,_,h,_,_=>by cases h
 | [],.slice _ _,_,_,h,_,_=>by cases h
 | _ :: _,.int _,_,_,h,_,_=>by cases h
 | _ :: _,.bool,_,_,h,_,_=>by cases h
 | _ :: _,.err,_,_,h,_,_=>by cases h
 | _ :: _,.fn,_,_,h,_,_=>by cases h
 | _ :: _,.pt,_,_,h,_,_=>by cases h
 | _ :: _,.bp _,_,_,h,_,_=>by cases h
 | _ :: _,.str,_,_,h,_,_=>by cases h
 | _ :: _,.unit,_,_,h,_,_=>by cases h
 | _ :: _,.agg _,_,_,h,_,_=>by cases h
 | _ :: _,.slice _ _,_,_,h,_,_=>by cases h
theorem Aw : ∀(d:Nat) (T:TypeId) (t:Ty),eu P d T t=true → ∀(fuel:Nat) (cs:List Value) (x:DataW H×List MemPlace),DataW.trod enc P w base sp held fuel T cs=some x → ∃ y:t.den,RK (wK w) t y cs∧uH t y
 | 0,_,_,h,_,_,_,_=>by simp[eu] at h
 | d+1,T,.int k,h,fuel,cs,x,hx=>by
  unfold eu at h
  split at h
  ·rename_i k' hu
   have:=U8 h
   subst this
   obtain⟨n,rfl,_,hw⟩:=DataW.trod_int hu hx
   exact⟨n,rfl,hw⟩
  ·cases h
 | d+1,T,.bool,h,fuel,cs,x,hx=>by
  unfold eu at h
  split at h
  ·rename_i hu
   obtain⟨b,rfl,_⟩:=DataW.trod_bool hu hx
   exact⟨b,rfl,trivial⟩
  ·cases h
 | d+1,T,.str,h,fuel,cs,x,hx=>by
  unfold eu at h
  split at h
  ·rename_i hu
   obtain⟨s,rfl,_,hw⟩:=DataW.trod_string hu hx
   exact⟨s,rfl,hw⟩
  ·cases h
 | d+1,T,.slice e t,h,fuel,cs,x,hx=>by
  unfold eu at h
  split at h
  ·rename_i e' hu
   simp only[P8] at h
   obtain⟨⟨⟨h1,h2⟩,h3⟩,h4⟩:=h
   have h1:=T0 h1
   subst h1
   have h2:=T0 h2
   have h3:0 < t.sz:=by simpa[Nat.blt_eq] using h3
   rcases DataW.trod_slice hu hx with⟨rfl,_⟩ | ⟨a,len,cap,elems,rest,n,rfl,rfl,rfl,hb,hle,hmax,hlen,hel,_⟩
   ·exact⟨([]:List t.den),⟨none,0,rfl,Q6 _,fun h=>S0 rfl h⟩,Y6 _,fun x hx=>by cases hx⟩
   ·have each : ∀ i,i < len → ∃ y:t.den,uH t y ∧ ∃ c,RK (wK w) t y c∧c.length=t.sz ∧ ∀ j,j < t.sz→w.cell? ((a.add (i*t.sz)).add j)=c[j]? := by
     intro i hi
     have h5:=hel i hi
     rw[Q7 (by omega),P7,h2] at h5
     obtain⟨c,h6,h7⟩:=h5
     obtain⟨_,h8,h9⟩:=World.cells?_some h6
     obtain⟨y,h10,h11⟩:=Aw d e' t h4 _ _ _ h7
     exact⟨y,h11,c,h10,h8,h9⟩
    obtain⟨ys,hyl,hy⟩:=Bw len each
    have hyl':len=ys.length:=hyl.symm
    subst hyl'
    refine⟨ys,⟨some a,cap,rfl,hle,fun hne => ?_⟩,T5 hle hmax,fun y hyy => ?_⟩
    ·have hpos:0 < ys.length:=by
      cases ys with
      | nil=>exact S0 rfl hne
      | cons _ _=>simp
     obtain⟨_,c0,_,hcl,hcc⟩:=hy 0 hpos
     have hsp:a.spot=none:=by
      have:=hcc 0 h3
      rw[Q7 (by omega)] at this
      unfold World.cell? at this
      split at this
      ·cases hs:a.spot with
       | none=>rfl
       | some z =>
        simp[Addr.add,hs] at this
      ·cases this
     obtain⟨b,o,s⟩:=a
     simp only at hsp
     subst hsp
     refine⟨b,o,rfl,fun i hi => ?_⟩
     obtain⟨_,c,k1,k2,k3⟩:=hy i hi
     refine⟨c,k1,fun j v hj=>⟨trivial,?_⟩⟩
     have hjl:j < t.sz:=by
      rw[←k2]
      exact(Q9.1 hj).1
     have:=k3 j hjl
     rw[hj,eU,eU] at this
     exact this
    ·obtain⟨i,hi,he⟩:=X0 hyy
     rw[←he]
     exact(hy i hi).1
  ·cases h
 | d+1,T,.agg t,h,fuel,cs,x,hx=>by
  unfold eu at h
  split at h
  ·rename_i fs hu
   simp only[P8] at h
   have h1:=T0 h.1
   obtain⟨xs,n,rfl,rfl,hl,hxl,hf⟩:=DataW.trod_struct hu hx
   have:=DA (g:=eu P d) (n:=n) (fun T t hT cs x hx=>Aw d T t hT n cs x hx) (cs:=cs) h.2 (by rw[hl,h1,V7]) (fun f hfm=>by
    obtain⟨i,hi,he⟩:=X0 hfm
    have hi':i < fs.size:=by simpa using hi
    have:=hf i f (by rw[U3 hi']; simpa using he)
    rw[Q7 (by omega)] at this
    exact⟨_,this⟩)
   obtain⟨y,h3,h4⟩:=this
   exact⟨y,h3,h4⟩
  ·cases h
 | d+1,T,.unit,h,_,_,_,_=>by simp[eu] at h
 | d+1,T,.err,h,_,_,_,_=>by simp[eu] at h
 | d+1,T,.fn,h,_,_,_,_=>by simp[eu] at h
 | d+1,T,.pt,h,_,_,_,_=>by simp[eu] at h
 | d+1,T,.bp _,h,_,_,_,_=>by simp[eu] at h
 | d+1,T,.pair _ _,h,_,_,_,_=>by simp[eu] at h
theorem Lt {d:Nat} {T:TypeId} {t:Ty} (h:eu P d T t=true) {r:Reach} {v:Value} (hv:Value.okWide P w r base T v):v=mk t v.cells.toList:=by
 cases d with
 | zero=>simp[eu] at h
 | succ d =>
  unfold eu at h
  cases t with
  | int k =>
   simp only at h
   split at h
   ·rename_i hu
    obtain⟨n,rfl⟩:=okWide_int hu hv
    rfl
   ·cases h
  | bool =>
   simp only at h
   split at h
   ·rename_i hu
    obtain⟨b,rfl⟩:=okWide_bool hu hv
    rfl
   ·cases h
  | str =>
   simp only at h
   split at h
   ·rename_i hu
    obtain⟨s,rfl⟩:=okWide_string hu hv
    rfl
   ·cases h
  | slice e t =>
   simp only at h
   split at h
   ·rename_i hu
    obtain⟨a,l,c,rfl⟩:=okWide_slice hu hv
    rfl
   ·cases h
  | agg t =>
   simp only at h
   split at h
   ·rename_i hu
    obtain⟨cs,rfl,_⟩:=okWide_struct hu hv
    show Value.agg cs = .agg cs.toList.toArray
    simp
   ·cases h
  | unit=>simp at h
  | err=>simp at h
  | fn=>simp at h
  | pt=>simp at h
  | bp _=>simp at h
  | pair a b=>simp at h
theorem NK {d:Nat} {T:TypeId} {t:Ty} (h:eu P d T t=true) {r:Reach} {v:Value} {x:DataW H} {ps:List MemPlace} (hv:Value.okWide P w r base T v) (hx:DataW.Trod enc P w 0 sp held T v x ps) : ∃ y:t.den,uH t y∧v=mk t v.cells.toList∧RK (wK w) t y v.cells.toList:=by
 obtain⟨fuel,hx⟩:=hx
 obtain⟨y,h1,h2⟩:=Aw d T t h fuel _ _ hx
 exact⟨y,h2,Lt h hv,h1⟩
end
abbrev yQ (w:World) (b o:Nat):Prop := ∃ v,w.cell? ⟨b,o,none⟩=some v
theorem Jx {w:World} {args:List SV} {us:List Value} (h:bR (Ln (yQ w) w) (fun _=>none) args us):bc w (ju [] fun _=>none) (yQ w) args (ap []) (fun _=>none) (yQ w) {tmps:=us.toArray,defers:=[]} w:=by
 refine⟨h,rfl,(fun r e t v h=>by cases h),(fun r b t h=>by cases h),(fun r x h=>by cases h),(fun r r' x x' b h=>by cases h),(fun r x b h=>by cases h),(fun r x b h=>by cases h),fun _ _ _=>rfl,Q6 _,rfl,rfl,rfl,?_,fun _ _ _ _ h=>h,fun _ _ _ h=>h⟩
 rintro b o ⟨v,hv⟩
 unfold World.cell? at hv
 split at hv
 ·rename_i h
  exact(T4.1 h).1
 ·cases hv
theorem NL {w:World} {t:Ty} {y:t.den} {v:Value} (h1:v=mk t v.cells.toList) (h2:RK (wK w) t y v.cells.toList):RV (Ln (yQ w) w) (fun _=>none) (.val t y) v:=by
 rw[h1]
 exact .val (ep (fun b o v h=>⟨⟨v,h.2⟩,h.2⟩) h2)
theorem Jy {P:Program} {E:bZ} {Gp:WP} (hst:yD Gp) (hm:P.follows .mixedOrders=true) (hE:dI P E) (hP:rf Gp P E) {I:am} {key:Nat} (hg:ct E.fns key=some I) {args:List SV} {z:I.sh.den×I.bx.den} (h:oD E I args [] z)
  (h1:bB I.sh z.1 0=([.val .bool true],[],0)) (h2:bB I.bx z.2 0=([],[],0)) (h3:bW I.rb [] [] (ml I.bx)=some []) {w:World} {us:List Value} (hGp:Gp w (ju [] fun _=>none)) (hu:bR (Ln (yQ w) w) (fun _=>none) args us) :
  Calls P I.g us.toArray w fun e w'=>e = .returned (.bool true)∧Below w.heap.size w w':=by
 have:=h.calls hst hm hE hP hg (fun k p hp=>by simp at hp) hGp (Jx hu) (fun _ _=>rfl) (N:=0) (Y6 _) h1 h2 h3
 refine this.mono ?_
 rintro e w' ⟨vals,γr,Pr',rfl,hB,_⟩
 have hv:=hB.vals
 cases hv with
 | cons hv hk =>
  cases hk
  have:=eZ hv
  subst this
  refine⟨rfl,hB.os,hB.tape,hB.output,hB.size,fun k hk=>hB.frame k hk ?_⟩
  rintro⟨j,x,hj,_⟩
  cases hj
end Go.Proofs.YtfffplonjaigkaaGreatDoor.Abs
namespace Go.Proofs.YtfffplonjaigkaaGreatDoor.Abs
open Go Go.RowKit
def uI:(t:Ty)→t.den→List Value
 | .int k,n=>[.int k n]
 | .bool,b=>[.bool b]
 | .err,_=>[]
 | .fn,_=>[]
 | .pt,_=>[]
 | .bp _,_=>[]
 | .str,s=>[.string s]
 | .unit,_=>[]
 | .pair a b,x=>uI a x.1++uI b x.2
 | .agg t,x=>uI t x
 | .slice _ _,_=>[]
theorem oF {L:Lk} : ∀ {t:Ty} {x:t.den} {cs:List Value},cH t=true→(RK L t x cs↔cs=uI t x)
 | .int k,n,cs,_=>Iff.rfl
 | .bool,b,cs,_=>Iff.rfl
 | .err,_,_,hn=>by cases hn
 | .fn,_,_,hn=>by cases hn
 | .pt,_,_,hn=>by cases hn
 | .bp _,_,_,hn=>by cases hn
 | .str,s,cs,_=>Iff.rfl
 | .unit,_,cs,_=>Iff.rfl
 | .pair a b,x,cs,hn=>by
  simp only[cH,P8] at hn
  constructor
  ·rintro⟨c,d,rfl,h1,h2⟩
   rw[(oF hn.1).1 h1,(oF hn.2).1 h2]
   rfl
  ·rintro rfl
   exact⟨_,_,rfl,(oF hn.1).2 rfl,(oF hn.2).2 rfl⟩
 | .agg t,x,cs,hn=>oF (t:=t) hn
 | .slice _ _,_,_,hn=>by cases hn
theorem GC {L:Lk} {t:Ty} (hn:cH t=true) {xs:List t.den} {css:List (List Value)}:im L t xs css↔css=xs.map (uI t):=by
 constructor
 ·rintro⟨h1,h2⟩
  apply List.ext_getElem (by simp[h1])
  intro i h3 h4
  rw[List.getElem_map]
  exact(oF hn).1 (h2 i (by omega) h3)
 ·rintro rfl
  refine⟨by simp,fun i h h' => ?_⟩
  rw[List.getElem_map]
  exact(oF hn).2 rfl
end Go.Proofs.YtfffplonjaigkaaGreatDoor.Abs
namespace Go.Proofs.YtfffplonjaigkaaGreatDoor.Abs
open Go Go.RowKit
def Hz:(s:Sh)→s.den→List Value→Prop
 | .pair (.val t) b,x,us => ∃ cs us',us=mk t cs :: us'∧RK (fun _ _ _=>False) t x.1 cs∧Hz b x.2 us'
 | .unit,_,us=>us=[]
 | _,_,_=>False
theorem wQ {γ:Nat→Option G} : ∀ {s:Sh} {x:s.den} {us:List Value} (n:Nat),Hz s x us → ∃ vs,bB s x n=(vs,[],n)∧bR (fun _ _ _=>False) γ vs us
 | .pair (.val t) b,x,us,n,h=>by
  obtain⟨cs,us',rfl,hk,h⟩:=h
  obtain⟨vs,h1,h2⟩:=wQ (γ:=γ) (s:=b) (x:=x.2) n h
  refine⟨.val t x.1 :: vs,?_,.cons (.val hk) h2⟩
  show(let (v,u,m):=ax (.val t) x.1 n; let (l,u',m'):=ax.go b x.2 m; (v :: l,u++u',m'))=_
  have h1:ax.go b x.2 n=(vs,[],n):=h1
  simp only[ax,h1,T8]
 | .unit,x,us,n,h=>⟨[],rfl,by rw[show us=[] from h]; exact .nil⟩
 | .val _,_,_,_,h=>h.elim
 | .row _ _ _,_,_,_,h=>h.elim
 | .strct _,_,_,_,h=>h.elim
 | .ptr _,_,_,_,h=>h.elim
 | .pair .unit _,_,_,_,h=>h.elim
 | .pair (.row _ _ _) _,_,_,_,h=>h.elim
 | .pair (.pair _ _) _,_,_,_,h=>h.elim
 | .pair (.strct _) _,_,_,_,h=>h.elim
 | .pair (.ptr _) _,_,_,_,h=>h.elim
theorem gD {Gp:WP} {P:Program} {g:Nat} {fn:Func} {sh:Sh} {own:List Bool} {live:List (Nat×List Nat)} {pr:Option (List SV→az→Option (sh.den×Sh.unit.den))} {args:List SV} {z:sh.den×Sh.unit.den} (hz : ∀ n,(bB sh z.1 n).2=([],n))
  (hcall : ∀(w:World) (Pr:Nat→Nat→Prop) (γ:Nat→Option G) (us:List Value),Gp w (fun _=>False)→(∀ b o,Pr b o→b < w.heap.size)→bR (Ln Pr w) γ args us→Calls P g us.toArray w fun e w' => ∃ us',e = .returned (uB us')∧Hz sh z.1 us'∧Below w.heap.size w w') (hst : ∀ w X,Gp w X→Gp w fun _=>False) :
  ga Gp P {g:=g,fn:=fn,sh:=sh,bx := .unit,own:=own,live:=live,prim:=pr} args [] z:=by
 intro hcanon w γ Pr us hG hI hlim N hN vs u n bs u' n' ub hm1 hm2 hub
 have hu:=hz N
 rw[show bB sh z.1 N=(vs,u,n) from hm1] at hu
 obtain⟨rfl,rfl⟩:=Prod.mk.inj hu
 cases hm2
 cases hub
 refine(hcall w _ γ us (hst _ _ hG) hI.prIn hI.slots).mono ?_
 rintro e w' ⟨us',rfl,hf,hB⟩
 obtain⟨vs',hv1,hv2⟩:=wQ (γ:=fun _=>none) n hf
 rw[show bB sh z.1 n=(vs,[],n) from hm1] at hv1
 cases hv1
 refine⟨_,fun _=>none,Pr,rfl,⟨eA (fun _ _ _ h=>h.elim) (fun _ _ h=>h) hv2,?_,?_,?_,?_,?_,?_,?_,?_,?_,hB.size,hB.os,hB.tape,hB.output,?_,?_,?_⟩,?_⟩
 ·intro r g h; cases h
 ·intro j t c h; simp at h
 ·intro r x h; cases h
 ·intro r r' x x' b h; cases h
 ·intro j t c b h; simp at h
 ·intro j t c b h; simp at h
 ·intro r x b h; cases h
 ·intro r x b h; cases h
 ·exact fun k hk _=>hB.block k hk
 ·exact fun b o ho=>U7 (hI.prIn b o ho) hB.size
 ·exact fun b hb hx o ho=>ho
 ·intro b o v hv
  refine⟨hv.1,?_⟩
  rw[World.cell?_of_block (hB.block b (hI.prIn b o hv.1))]
  exact hv.2
 ·intro p hp
  cases hp
abbrev eJ:=String×(Array Value→Prop)
def dL (P:Program) (l:List eJ):WP:=fun w X => ∀ p∈l,(∃ a,w.var? P p.1=some a∧p.2 a) ∧ ∀ g,P.globalNamed p.1=some g → ¬X g
theorem dL.stable {P:Program} {l:List eJ}:yD (dL P l):=by
 intro w0 X w X' h k p hp
 obtain⟨⟨a,h1,h0⟩,h2⟩:=h p hp
 unfold World.var? at h1 ⊢
 cases hg:P.globalNamed p.1 with
 | none=>rw[hg] at h1; cases h1
 | some g =>
  rw[hg] at h1
  simp only[P1] at h1 ⊢
  have hlt:g < w0.heap.size:=by
   rcases Nat.lt_or_ge g w0.heap.size with h | h
   ·exact h
   ·rw[ad_ h] at h1
    cases h1
  obtain⟨_,k2,k3⟩:=k g hlt (h2 g hg)
  rw[k3]
  exact⟨⟨a,h1,h0⟩,fun g' hg'=>by cases hg'; exact k2⟩
theorem dL.none {P:Program} {l:List eJ} {w:World} {X:Nat→Prop} (h:dL P l w X):dL P l w fun _=>False :=
 fun p hp=>⟨(h p hp).1,fun _ _ h=>h⟩
theorem DB {c:P0} (h:mJ c=true):c.size < 4294967281 ∧ ∀(j:Nat) b,c.data.toList[j]? = some b→b.toNat < 128:=by
 unfold mJ at h
 simp only[P8,Q0,W6] at h
 exact⟨by omega,fun j b hj=>h.2 b (T2 hj)⟩
def rh (n:String):eJ:=(n,fun a => ∃ m,a[0]? = some (.int .i64 m))
def yR (n:String):eJ:=(n,fun a => ∃ tp p,a = #[.iface tp p])
theorem wR {P:Program} {l:List eJ} {w:World} {n:String} {g:Nat} (h:dL P l w fun _=>False) (hm:rh n∈l) (hg:P.globalNamed n=some g) : ∃ m,w.cell? ⟨g,0,Option.none⟩=some (.int .i64 m):=by
 obtain⟨⟨a,h1,m,h2⟩,_⟩:=h _ hm
 refine⟨m,?_⟩
 have:=World.var?_cell hg h1 0
 rw[this]
 exact h2
theorem Jz {P:Program} {w:World} {n:String} {g:Nat} (hg:P.globalNamed n=some g) (h : ∃ m,w.cell? ⟨g,0,Option.none⟩=some (.int .i64 m)) : ∃ a,w.var? P (rh n).1=some a∧(rh n).2 a:=by
 obtain⟨m,h⟩:=h
 unfold World.cell? at h
 split at h
 ·rename_i c t z hc
  refine⟨c,?_,m,h⟩
  show World.var? P w n=some c
  unfold World.var?
  rw[hg]
  simp only[P1,hc]
 ·cases h
end Go.Proofs.YtfffplonjaigkaaGreatDoor.Abs
