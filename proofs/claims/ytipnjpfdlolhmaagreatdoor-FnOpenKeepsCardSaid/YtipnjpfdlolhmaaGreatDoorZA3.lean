/- Regions whose operations may stand in other orders. -/
import Derived.Test.YtipnjpfdlolhmaaGreatDoorZA2
import Derived.LoopN
import Derived.Sort.AssemblyPlain
import Derived.Lib.BitFns
import Derived.Lib.ItoaNum
import Derived.Lib.SlTrimSet
import Derived.Lib.IndexMore
import Derived.Lib.Split
import Derived.Lib.Replace
import Derived.Lib.Join
import Derived.Lib.ParseIntB
import Derived.Lib.Strings
import Derived.Sort.Walk0
import Derived.ChangeArms
import Derived.DataReads
import Derived.WideShapes
import Derived.Carry
import Derived.OpenShut
import Derived.LaidLaws
import Derived.LaidHandle
import Derived.LaidMore
import Derived.Lib.LaidTab
import Derived.Below
set_option linter.unusedVariables false
set_option linter.unusedSimpArgs false
set_option linter.unusedSectionVars false
open Array renaming getD_eq_getD_getElem?→co_,getElem?_eq_getElem→cm_,getElem?_eq_none→ek_,getElem?_eq_some_iff→br_,getElem?_toList→cu_,size_push→gl_,toList_inj→dm_
open Bool renaming and_eq_true→Z8,not_eq_true'→cz_,not_true→aj_,or_eq_false_iff→er_
open ByteArray renaming toList→Z6
open Go.Lib renaming bitLen→ex_
open Go.Result renaming andThen_ok→ai_
open Go.Sem renaming run_bind→aq_,run_pure→av_
open List renaming all_eq_true→cc_,append_nil→bz_,eq_nil_of_length_eq_zero→bo_,filter_cons→ed_,foldl_cons→fq_,getElem?_append_left→cg_,getElem?_append_right→da_,getElem?_eq_getElem→ah_,getElem?_eq_some_iff→ar_,getElem_of_mem→db_,length_append→Z7,length_cons→aa_,map_cons→bb_,mem_append_left→dw_,mem_append_right→dk_,mem_append→bx_,mem_cons_of_mem→af_,mem_cons→bd_,mem_map_of_mem→dn_,mem_of_getElem?→bq_,mem_range→dy_,mem_singleton→bc_,nodup_cons→ez_,pairwise_cons→bs_,prefix_rfl→fr_,range→bu_,replicate→az_
open List.cons renaming inj→fn_
open Nat renaming add_assoc→dc_,add_sub_cancel_left→fl_,add_zero→dq_,beq→cp_,eq_of_beq_eq_true→be_,le_refl→ag_,le_trans→bf_,lt_of_lt_of_le→cj_,zero_add→cl_,zero_le→de_
open Option renaming bind_eq_some_iff→ab_,bind_some→Z1,getD_some→ch_
open Option.some renaming injEq→ap_,inj→bl_
open _root_ renaming ByteArray→Z0,absurd→ay_,decide_eq_true_eq→Z9,if_neg→Z2,if_pos→Z3,of_decide_eq_true→do_
namespace Go.Proofs.YtipnjpfdlolhmaaGreatDoor.Abs
open Go Go.RowKit
theorem WN {s:Nat} {e:Nat} {b:Nat} {a:Nat}:(s ||| 2 ^ e ||| b).testBit a=(s.testBit a || decide (e=a) || b.testBit a):=by
 simp[Nat.testBit_or,Nat.testBit_two_pow]
theorem HE (g:Nat→Nat) (a:Nat) : ∀(l:List Edge) (s:Nat),(l.foldl (fun s e=>if Region.binds .any e then s ||| 2 ^ e.on ||| g e.on else s) s).testBit a=true→s.testBit a=true ∨ ∃ e∈l,Region.binds .any e=true∧(e.on=a∨(g e.on).testBit a=true)
 | [],s,h => .inl h
 | e :: l,s,h=>by
  rw[fq_] at h
  rcases HE g a l _ h with h | ⟨e',h1,h2⟩
  ·split at h
   ·rename_i hb
    rw[WN] at h
    simp only[Bool.or_eq_true,Z9] at h
    rcases h with(h | h) | h
    ·exact .inl h
    ·exact .inr ⟨e,by simp,hb,.inl h⟩
    ·exact .inr ⟨e,by simp,hb,.inr h⟩
   ·exact .inl h
  ·exact .inr ⟨e',af_ _ h1,h2⟩
def EE (acc:Array Nat) (o:Oper):Nat:=o.after.foldl (fun s e=>if Region.binds .any e then s ||| 2 ^ e.on ||| acc.getD e.on 0 else s) 0
theorem CD : ∀(l:List Oper) (acc:Array Nat),let r:=l.foldl (fun acc o=>acc.push (EE acc o)) acc
  r.size=acc.size+l.length∧(∀ k,k < acc.size→r[k]? = acc[k]?) ∧ ∀ k o,l[k]? = some o → ∃ acc',(∀ j,j < acc.size+k→acc'[j]? = r[j]?)∧acc'.size=acc.size+k∧r[acc.size+k]? = some (EE acc' o)
 | [],acc=>⟨by simp,fun k _=>rfl,fun k o h=>by simp at h⟩
 | o :: l,acc=>by
  obtain⟨h1,h2,h3⟩:=CD l (acc.push (EE acc o))
  refine⟨by simp only[fq_,h1,gl_,aa_]; omega,fun k hk => ?_,fun k o' hk => ?_⟩
  ·rw[fq_,h2 k (by rw[gl_]; omega),Array.getElem?_push_lt hk,cm_ hk]
  ·rw[fq_]
   cases k with
   | zero =>
    simp at hk
    subst hk
    refine⟨acc,fun j hj => ?_,rfl,?_⟩
    ·rw[h2 j (by rw[gl_]; omega),Array.getElem?_push_lt (by omega),cm_ (by omega)]
    ·rw[h2 (acc.size+0) (by rw[gl_]; omega)]
     simp
   | succ k =>
    obtain⟨acc',h4,h5,h6⟩:=h3 k o' (by simpa using hk)
    rw[gl_] at h4 h5 h6
    refine⟨acc',fun j hj=>h4 j (by omega),by omega,?_⟩
    rw[show acc.size+(k+1)=acc.size+1+k by omega]
    exact h6
theorem R9 {all:Array Oper} {a b:Nat} (h:((Region.before all).getD b 0).testBit a=true) : ∃ o,all[b]? = some o ∧ ∃ e∈o.after,Region.binds .any e=true∧(e.on=a∨(e.on < b∧((Region.before all).getD e.on 0).testBit a=true)):=by
 have hb:Region.before all=all.toList.foldl (fun acc o=>acc.push (EE acc o)) #[]:=by
  unfold Region.before
  rw[←Array.foldl_toList]
  rfl
 obtain⟨h1,_,h3⟩:=CD all.toList #[]
 rw[←hb] at h1 h3
 have hlt:b < all.size:=by
  rcases Nat.lt_or_ge b all.size with h' | h'
  ·exact h'
  ·have:(Region.before all)[b]? = none:=ek_ (by rw[h1]; simpa using h')
   rw[co_,this] at h
   simp at h
 obtain⟨acc',h4,h5,h6⟩:=h3 b all[b] (by rw[cu_]; exact cm_ hlt)
 simp only[Array.size_empty,cl_] at h4 h5 h6
 refine⟨all[b],cm_ hlt,?_⟩
 rw[co_,h6,ch_] at h
 unfold EE at h
 rw[←Array.foldl_toList] at h
 rcases HE (fun n=>acc'.getD n 0) a _ 0 h with h | ⟨e,h7,h8,h9⟩
 ·simp at h
 ·refine⟨e,by simpa using h7,h8,?_⟩
  rcases h9 with h9 | h9
  ·exact .inl h9
  ·right
   by_cases he:e.on < b
   ·refine⟨he,?_⟩
    rw[co_,←h4 e.on he,←co_]
    exact h9
   ·rw[co_,ek_ (by omega)] at h9
    simp at h9
theorem HF {all:Array Oper} {S:Nat→Prop} (hS : ∀ b o,S b→all[b]? = some o → ∀ e∈o.after,Region.binds .any e=true→S e.on) : ∀(b a:Nat),(∀ o,all[b]? = some o → ∀ e∈o.after,Region.binds .any e=true→S e.on)→((Region.before all).getD b 0).testBit a=true→S a:=by
 intro b
 induction b using Nat.strongRecOn with
 | _ b ih =>
  intro a hb h
  obtain⟨o,ho,e,he,hbd,h | ⟨hlt,h⟩⟩:=R9 h
  ·rw[←h]
   exact hb o ho e he hbd
  ·have hse:=hb o ho e he hbd
   exact ih e.on hlt a (fun o' ho' e' he' hb'=>hS e.on o' hse ho' e' he' hb') h
structure Tr where
 i:Nat
 o:Oper
 v:SV
 u:Up
 see:List Nat
 ran:Bool
def lv (τ:Tr):zW:={i:=τ.i,see:=τ.see,turn:=τ.u.map (·.1)}
def jg (S:Nat→Bool):List Tr→List SV→List SV
 | [],sl=>sl
 | τ :: T,sl=>jg S T (if S τ.i=true then m5 sl τ.o.dst τ.v else sl)
def jX (S:Nat→Bool):List Tr→(Nat→Option aZ)→Nat→Option aZ
 | [],g=>g
 | τ :: T,g=>jX S T (if S τ.i=true then bz g τ.u else g)
theorem Du {S:Nat→Bool} : ∀ {T:List Tr} {sl:List SV},(∀ τ∈T,S τ.i=false)→jg S T sl=sl
 | [],_,_=>rfl
 | τ :: T,sl,h=>by
  unfold jg
  rw[Z2 (by rw[h τ (by simp)]; simp)]
  exact Du fun τ hτ=>h τ (af_ _ hτ)
theorem Dv {S:Nat→Bool} : ∀ {T:List Tr} {g:Nat→Option aZ},(∀ τ∈T,S τ.i=false)→jX S T g=g
 | [],_,_=>rfl
 | τ :: T,g,h=>by
  unfold jX
  rw[Z2 (by rw[h τ (by simp)]; simp)]
  exact Dv fun τ hτ=>h τ (af_ _ hτ)
theorem Ah {S S':Nat→Bool} : ∀ {T:List Tr} {sl:List SV},(∀ τ∈T,S τ.i=S' τ.i)→jg S T sl=jg S' T sl
 | [],_,_=>rfl
 | τ :: T,sl,h=>by
  unfold jg
  rw[h τ (by simp)]
  exact Ah fun τ hτ=>h τ (af_ _ hτ)
theorem Ai {S S':Nat→Bool} : ∀ {T:List Tr} {g:Nat→Option aZ},(∀ τ∈T,S τ.i=S' τ.i)→jX S T g=jX S' T g
 | [],_,_=>rfl
 | τ :: T,g,h=>by
  unfold jX
  rw[h τ (by simp)]
  exact Ai fun τ hτ=>h τ (af_ _ hτ)
theorem CE : ∀(l:List SV) (d:Nat) (v:SV),(dA l d v).length=l.length
 | [],_,_=>rfl
 | x :: l,0,v=>rfl
 | x :: l,d+1,v=>by simp[dA,CE l d v]
theorem KA : ∀(l:List SV) (d t:Nat) (v:SV),d≠t→gZ (dA l d v) t=gZ l t
 | [],_,_,_,_=>rfl
 | x :: l,0,0,v,h=>ay_ rfl h
 | x :: l,0,t+1,v,h=>rfl
 | x :: l,d+1,0,v,h=>rfl
 | x :: l,d+1,t+1,v,h=>KA l d t v (fun e=>h (by rw[e]))
theorem HG : ∀(l l':List SV) (d:Nat) (v:SV),l.length=l'.length→gZ (dA l d v) d=gZ (dA l' d v) d
 | [],[],_,_,_=>rfl
 | [],_ :: _,_,_,h=>by simp at h
 | _ :: _,[],_,_,h=>by simp at h
 | x :: l,y :: l',0,v,h=>rfl
 | x :: l,y :: l',d+1,v,h=>HG l l' d v (by simpa using h)
theorem KB : ∀(l:List SV) (d e:Nat) (v u:SV),d≠e→dA (dA l d v) e u=dA (dA l e u) d v
 | [],_,_,_,_,_=>rfl
 | x :: l,0,0,v,u,h=>ay_ rfl h
 | x :: l,0,e+1,v,u,h=>rfl
 | x :: l,d+1,0,v,u,h=>rfl
 | x :: l,d+1,e+1,v,u,h=>congrArg (x :: ·) (KB l d e v u (fun hh=>h (by rw[hh])))
theorem EF {S S':Nat→Bool} {t:Nat} : ∀ {T:List Tr} {sl sl':List SV},(∀ τ∈T,τ.o.dst=some t→S τ.i=S' τ.i)→sl.length=sl'.length→gZ sl t=gZ sl' t→gZ (jg S T sl) t=gZ (jg S' T sl') t
 | [],_,_,_,_,h=>h
 | τ :: T,sl,sl',hT,hl,hs=>by
  unfold jg
  refine EF (fun τ hτ=>hT τ (af_ _ hτ)) ?_ ?_
  ·have : ∀(S:Nat→Bool) (sl:List SV),(if S τ.i=true then m5 sl τ.o.dst τ.v else sl).length=sl.length:=by
    intro S sl
    split
    ·unfold m5
     split
     ·exact CE _ _ _
     ·rfl
    ·rfl
   rw[this,this,hl]
  ·by_cases hd:τ.o.dst=some t
   ·rw[hT τ (by simp) hd]
    split
    ·rw[hd]
     exact HG _ _ _ _ hl
    ·exact hs
   ·have : ∀(S:Nat→Bool) (sl:List SV),gZ (if S τ.i=true then m5 sl τ.o.dst τ.v else sl) t=gZ sl t:=by
     intro S sl
     split
     ·unfold m5
      split
      ·rename_i d hdd
       exact KA _ _ _ _ (fun e=>hd (by rw[hdd,e]))
      ·rfl
     ·rfl
    rw[this,this,hs]
theorem ow {u:Up} {r:Nat} : ∀ {g g':Nat→Option aZ},(g r=g' r→bz g u r=bz g' u r)∧(r ∉ u.map (·.1)→bz g u r=g r):=by
 induction u with
 | nil=>exact fun {g g'}=>⟨fun h=>h,fun _=>rfl⟩
 | cons p u ih =>
  intro g g'
  obtain⟨k,x⟩:=p
  constructor
  ·intro h
   refine(ih (g:=fun s=>if s=k then x else g s) (g':=fun s=>if s=k then x else g' s)).1 ?_
   by_cases hk:r=k
   ·rw[Z3 hk,Z3 hk]
   ·rw[Z2 hk,Z2 hk,h]
  ·intro h
   rw[bb_,bd_] at h
   show bz (fun s=>if s=k then x else g s) u r=g r
   rw[(ih (g:=fun s=>if s=k then x else g s) (g':=g)).2 (fun hh=>h (.inr hh)),Z2 (fun e=>h (.inl e))]
theorem KC {S S':Nat→Bool} {r:Nat} : ∀ {T:List Tr} {g g':Nat→Option aZ},(∀ τ∈T,r∈τ.u.map (·.1)→S τ.i=S' τ.i)→g r=g' r→jX S T g r=jX S' T g' r
 | [],_,_,_,h=>h
 | τ :: T,g,g',hT,hs=>by
  unfold jX
  refine KC (fun τ hτ=>hT τ (af_ _ hτ)) ?_
  by_cases hd:r∈τ.u.map (·.1)
  ·rw[hT τ (by simp) hd]
   split
   ·exact ow.1 hs
   ·exact hs
  ·have : ∀(S:Nat→Bool) (g:Nat→Option aZ),(if S τ.i=true then bz g τ.u else g) r=g r:=by
    intro S g
    split
    ·exact(ow (g':=g)).2 hd
    ·rfl
   rw[this,this,hs]
theorem Sa {sl:List SV} {d e:Option Nat} {v u:SV} (h : ∀ t,d=some t→e≠some t):m5 (m5 sl d v) e u=m5 (m5 sl e u) d v:=by
 cases d with
 | none=>cases e <;> rfl
 | some d=>cases e with
  | none=>rfl
  | some e=>exact KB sl d e v u (fun hh=>h d rfl (by rw[hh]))
theorem Sb {g:Nat→Option aZ} {u u':Up} (h : ∀ r,r∈u.map (·.1)→r ∉ u'.map (·.1)):bz (bz g u) u'=bz (bz g u') u:=by
 funext r
 by_cases h1:r∈u.map (·.1)
 ·rw[(ow (g':=g)).2 (h r h1)]
  exact ow.1 (((ow (g':=g)).2 (h r h1)).symm)
 ·rw[(ow (u:=u) (g':=g)).2 h1]
  exact ow.1 ((ow (u:=u) (g':=g)).2 h1)
theorem EG {S:Nat→Bool} {τ:Tr} (hS:S τ.i=false) : ∀ {T:List Tr} {sl:List SV},τ∈T→(T.map (·.i)).Nodup→(∀ τ'∈T,S τ'.i=true→τ.i < τ'.i → ∀ t,τ.o.dst=some t→τ'.o.dst≠some t)→T.Pairwise (fun x y=>x.i < y.i) →
  jg (fun j=>S j || j == τ.i) T sl=m5 (jg S T sl) τ.o.dst τ.v
 | [],_,h,_,_,_=>by simp at h
 | τ0 :: T,sl,hm,hnd,hc,hp=>by
  rw[bb_,ez_] at hnd
  rw[bs_] at hp
  unfold jg
  rcases bd_.1 hm with rfl | hm'
  ·have e1 : ∀ τ'∈T,(S τ'.i || τ'.i == τ.i)=S τ'.i:=fun τ' hτ'=>by
    have:τ'.i≠τ.i:=fun e=>hnd.1 (by rw[←e]; exact dn_ (f:=(·.i)) hτ')
    simp[this]
   rw[Ah e1,Z3 (by simp),Z2 (by rw[hS]; simp)]
   have key : ∀(T:List Tr) (sl:List SV),(∀ τ'∈T,S τ'.i=true → ∀ t,τ.o.dst=some t→τ'.o.dst≠some t)→jg S T (m5 sl τ.o.dst τ.v)=m5 (jg S T sl) τ.o.dst τ.v:=by
    intro T
    induction T with
    | nil=>intro sl _; rfl
    | cons τ' T ih =>
     intro sl h
     unfold jg
     split
     ·rename_i hs
      rw[Sa (h τ' (by simp) hs)]
      exact ih _ (fun τ hτ=>h τ (af_ _ hτ))
     ·exact ih _ (fun τ hτ=>h τ (af_ _ hτ))
   exact key T sl (fun τ' hτ' hs=>hc τ' (af_ _ hτ') hs (hp.1 τ' hτ'))
  ·have hne:τ0.i≠τ.i:=fun e=>hnd.1 (by rw[e]; exact dn_ (f:=(·.i)) hm')
   have:(S τ0.i || τ0.i == τ.i)=S τ0.i:=by simp[hne]
   rw[this]
   exact EG hS hm' hnd.2 (fun τ' hτ'=>hc τ' (af_ _ hτ')) hp.2
theorem EH {S:Nat→Bool} {τ:Tr} (hS:S τ.i=false) : ∀ {T:List Tr} {g:Nat→Option aZ},τ∈T→(T.map (·.i)).Nodup→(∀ τ'∈T,S τ'.i=true→τ.i < τ'.i → ∀ r,r∈τ.u.map (·.1)→r ∉ τ'.u.map (·.1))→T.Pairwise (fun x y=>x.i < y.i) →
  jX (fun j=>S j || j == τ.i) T g=bz (jX S T g) τ.u
 | [],_,h,_,_,_=>by simp at h
 | τ0 :: T,g,hm,hnd,hc,hp=>by
  rw[bb_,ez_] at hnd
  rw[bs_] at hp
  unfold jX
  rcases bd_.1 hm with rfl | hm'
  ·have e1 : ∀ τ'∈T,(S τ'.i || τ'.i == τ.i)=S τ'.i:=fun τ' hτ'=>by
    have:τ'.i≠τ.i:=fun e=>hnd.1 (by rw[←e]; exact dn_ (f:=(·.i)) hτ')
    simp[this]
   rw[Ai e1,Z3 (by simp),Z2 (by rw[hS]; simp)]
   have key : ∀(T:List Tr) (g:Nat→Option aZ),(∀ τ'∈T,S τ'.i=true → ∀ r,r∈τ.u.map (·.1)→r ∉ τ'.u.map (·.1))→jX S T (bz g τ.u)=bz (jX S T g) τ.u:=by
    intro T
    induction T with
    | nil=>intro g _; rfl
    | cons τ' T ih =>
     intro g h
     unfold jX
     split
     ·rename_i hs
      rw[Sb (h τ' (by simp) hs)]
      exact ih _ (fun τ hτ=>h τ (af_ _ hτ))
     ·exact ih _ (fun τ hτ=>h τ (af_ _ hτ))
   exact key T g (fun τ' hτ' hs=>hc τ' (af_ _ hτ') hs (hp.1 τ' hτ'))
  ·have hne:τ0.i≠τ.i:=fun e=>hnd.1 (by rw[e]; exact dn_ (f:=(·.i)) hm')
   have:(S τ0.i || τ0.i == τ.i)=S τ0.i:=by simp[hne]
   rw[this]
   exact EH hS hm' hnd.2 (fun τ' hτ'=>hc τ' (af_ _ hτ')) hp.2
section
variable {P:Program} {E:cL} {call:(I:an)→List SV→aE→Option (I.sh.den×I.bx.den)} {w0:World} {X:Nat→Prop} {Pr0:Nat→Nat→Prop}
variable {R:Type} {K:St→Option R} {z:R}
def UP (E:cL) (call:(I:an)→List SV→aE→Option (I.sh.den×I.bx.den)) (all:Array Oper) (base:Nat) (τ:Tr) (sl:List SV) (g:Nat→Option aZ):Prop :=
 iC all τ.o sl τ.ran∧(τ.ran=true → ∃ res,cM E call τ.o ((dV τ.o.op).map (ev sl)) res (base+64*τ.i) cK=some (τ.v,τ.u) ∧ ∀ r x,aC res r=some x→r∈τ.see∧g r=some x)∧(τ.ran=false→τ.v = .tup []∧τ.u=[])
theorem KD {all:Array Oper} {base:Nat} : ∀ {l:List (Nat×Oper)} {g:List zW} {σ:St},cT E call all true base l g σ K=some z→(l.map (·.1)).Pairwise (· < ·) →
  ∃(T:List Tr) (σ':St),T.map (fun τ=>(τ.i,τ.o))=l∧(∀ τ∈T,UP E call all base τ (jg (fun j=>decide (j < τ.i)) T σ.slots) (jX (fun j=>decide (j < τ.i)) T (aC σ.res)))∧σ'.slots=jg (fun _=>true) T σ.slots∧aC σ'.res=jX (fun _=>true) T (aC σ.res) ∧
   σ'.n0=σ.n0∧σ'.nx=σ.nx∧K σ'=some z∧BL all (Region.before all) ((T.map lv).reverse++g)=true∧Gw all=true
 | [],g,σ,h,_=>by
  unfold cT at h
  simp only at h
  split at h
  ·rename_i h1 h2
   exact⟨[],σ,rfl,fun τ hτ=>by simp at hτ,rfl,rfl,rfl,rfl,h,h1,h2⟩
  ·cases h
 | (i,o) :: l,g,σ,h,hp=>by
  obtain⟨ran,v,u,see,hg,hran,hskip,hrest⟩:=CC h
  rw[bb_,bs_] at hp
  obtain⟨T,σ',h1,h2,h3,h4,h5,h6,h7,h8,h9⟩:=KD hrest hp.2
  have hT : ∀ τ∈T,i < τ.i:=by
   intro τ hτ
   have:(τ.i,τ.o)∈l:=by
    rw[←h1]
    exact dn_ (f:=fun τ:Tr=>(τ.i,τ.o)) hτ
   exact hp.1 _ (dn_ (f:=(·.1)) this)
  have hres:aC (nV σ o.dst v u).res=bz (aC σ.res) u:=qE
  refine⟨⟨i,o,v,u,see,ran⟩ :: T,σ',by rw[bb_,h1],?_,?_,?_,h5,h6,h7,?_,h9⟩
  ·intro τ hτ
   rcases bd_.1 hτ with rfl | hτ
   ·have hno : ∀ τ'∈T,decide (τ'.i < i)=false:=fun τ' hτ'=>by
     have:=hT τ' hτ'
     simp
     omega
    have e1:jg (fun j=>decide (j < i)) (⟨i,o,v,u,see,ran⟩ :: T) σ.slots=σ.slots:=by
     unfold jg
     rw[Z2 (by simp)]
     exact Du hno
    have e2:jX (fun j=>decide (j < i)) (⟨i,o,v,u,see,ran⟩ :: T) (aC σ.res)=aC σ.res:=by
     unfold jX
     rw[Z2 (by simp)]
     exact Dv hno
    show UP E call all base ⟨i,o,v,u,see,ran⟩ (jg (fun j=>decide (j < i)) (⟨i,o,v,u,see,ran⟩ :: T) σ.slots) (jX (fun j=>decide (j < i)) (⟨i,o,v,u,see,ran⟩ :: T) (aC σ.res))
    rw[e1,e2]
    exact⟨hg,fun hr=>⟨_,(hran hr).1,fun r x hx=>oV hx⟩,hskip⟩
   ·have hlt:=hT τ hτ
    have:=h2 τ hτ
    rw[xV,hres] at this
    unfold jg jX
    rw[Z3 (by simp[hlt]),Z3 (by simp[hlt])]
    exact this
  ·rw[h3,xV]
   rfl
  ·rw[h4,hres]
   rfl
  ·rw[bb_,List.reverse_cons,List.append_assoc]
   exact h8
theorem KE {all:Array Oper} {bf:Array Nat} : ∀ {L:List zW},BL all bf L=true→L.Pairwise fun b a=>uC all a b=true→(bf.getD b.i 0).testBit a.i=true
 | [],_ => .nil
 | b :: L,h=>by
  simp only[BL,Z8,cc_] at h
  refine bs_.2 ⟨fun a ha hc => ?_,KE h.2⟩
  have:=h.1 a ha
  rw[hc] at this
  simpa using this
theorem p3 {l m:List Nat} {r:Nat} (h1:r∈l) (h2:r∈m):ku l m=true:=by
 unfold ku
 rw[List.any_eq_true]
 refine⟨r,h1,?_⟩
 cases hh:xL m r with
 | true=>rfl
 | false=>exact ay_ h2 (wA hh)
theorem UQ {sl sl':List SV} {x:Operand} (h : ∀ t,x = .tmp t→gZ sl t=gZ sl' t):ev sl x=ev sl' x:=by
 cases x with
 | tmp t=>exact h t rfl
 | _=>rfl
theorem PN {o:Oper} {t:Nat} (h:Operand.tmp t∈dV o.op):t∈RH o:=List.mem_filterMap.2 ⟨_,h,rfl⟩
theorem Aj {α:Type} {p q:α→Bool} : ∀ {l:List α},(∀ x∈l,q x=true→p x=true)→(∃ x∈l,p x=true∧q x=false)→(l.filter q).length < (l.filter p).length
 | [],_,h=>by
  obtain⟨x,hx,_⟩:=h
  simp at hx
 | a :: l,hq,⟨x,hx,h1,h2⟩=>by
  have hle : ∀ l:List α,(∀ x∈l,q x=true→p x=true)→(l.filter q).length≤(l.filter p).length:=by
   intro l
   induction l with
   | nil=>intro _; simp
   | cons a l ih =>
    intro h
    have:=ih (fun x hx=>h x (af_ _ hx))
    simp only[ed_]
    by_cases ha:q a=true
    ·rw[Z3 ha,Z3 (h a (by simp) ha)]
     simpa using this
    ·rw[Z2 ha]
     split
     ·simp only[aa_]; omega
     ·exact this
  have hl:=hle l (fun x hx=>hq x (af_ _ hx))
  simp only[ed_]
  rcases bd_.1 hx with rfl | hx
  ·rw[Z2 (by rw[h2]; simp),Z3 h1]
   simp only[aa_]
   omega
  ·have:=Aj (l:=l) (fun x hx=>hq x (af_ _ hx)) ⟨x,hx,h1,h2⟩
   by_cases ha:q a=true
   ·rw[Z3 ha,Z3 (hq a (by simp) ha)]
    simpa using this
   ·rw[Z2 ha]
    split
    ·simp only[aa_]; omega
    ·exact this
structure Zx (all:Array Oper) (base:Nat) (T:List Tr) (σ:St) (γ0:Nat→Option G) (listed:Array Bool) (w0:World) (X:Nat→Prop) (Pr0:Nat→Nat→Prop) (γ:Nat→Option G) (Pr:Nat→Nat→Prop) (a:Act) (w:World):Prop where
 size:listed.size=all.size
 closed : ∀ b o,listed.getD b false=true→all[b]? = some o → ∀ e∈o.after,Region.binds .any e=true→listed.getD e.on false=true
 inv:bq w0 X Pr0 (jg (fun j=>listed.getD j false) T σ.slots) (jX (fun j=>listed.getD j false) T (aC σ.res)) γ Pr a w
 low : ∀ r,r < base→γ r=γ0 r
 free : ∀ i,listed.getD i false=false → ∀ r,base+64*i≤r→r < base+64*i+64→γ r=none
theorem OA {all:Array Oper} {base:Nat} {Q:Exit→Act→World→Prop} (hS:kw (nG w0 X) P E call) (hE:fP P E) {γ0:Nat→Option G} {σ:St} {T:List Tr} (hT:T.map (fun τ=>(τ.i,τ.o))=(bu_ all.size).zip all.toList)
  (hok : ∀ τ∈T,UP E call all base τ (jg (fun j=>decide (j < τ.i)) T σ.slots) (jX (fun j=>decide (j < τ.i)) T (aC σ.res))) (hord:BL all (Region.before all) (T.map lv).reverse=true) (hedge:Gw all=true)
  (hQ : ∀ γ' Pr' a' w',bq w0 X Pr0 (jg (fun _=>true) T σ.slots) (jX (fun _=>true) T (aC σ.res)) γ' Pr' a' w'→(∀ r,r < base→γ' r=γ0 r)→(∀ r,base+64*all.size≤r→γ' r=none)→Q .normal a' w') :
  ∀(fuel:Nat) (listed:Array Bool) (γ:Nat→Option G) (Pr:Nat→Nat→Prop) (a:Act) (w:World),Zx all base T σ γ0 listed w0 X Pr0 γ Pr a w→((bu_ all.size).filter fun j => !listed.getD j false).length≤fuel→wpAny P .any all Q fuel listed a w:=by
 have hTi:T.map (·.i)=bu_ all.size:=by
  have:=congrArg (List.map (·.1)) hT
  rw[List.map_map,(range_zip' all).2] at this
  exact this
 have hTo : ∀ τ∈T,all[τ.i]? = some τ.o:=by
  intro τ hτ
  have:(τ.i,τ.o)∈(bu_ all.size).zip all.toList:=by
   rw[←hT]
   exact dn_ (f:=fun τ:Tr=>(τ.i,τ.o)) hτ
  exact(range_zip' all).1 _ this
 have hnd:(T.map (·.i)).Nodup:=by rw[hTi]; exact List.nodup_range
 have hpw:T.Pairwise fun x y=>x.i < y.i:=by
  have:(T.map (·.i)).Pairwise (· < ·):=by rw[hTi]; exact List.pairwise_lt_range
  exact List.pairwise_map.1 this
 have hlt : ∀ τ∈T,τ.i < all.size:=fun τ hτ=>(br_.1 (hTo τ hτ)).1
 have hall : ∀ i,i < all.size → ∃ τ∈T,τ.i=i:=by
  intro i hi
  have:i∈T.map (·.i):=by rw[hTi]; exact dy_.2 hi
  obtain⟨τ,h1,h2⟩:=List.mem_map.1 this
  exact⟨τ,h1,h2⟩
 have hcl : ∀ τ∈T,∀ τ'∈T,τ.i < τ'.i→uC all (lv τ) (lv τ')=true→((Region.before all).getD τ'.i 0).testBit τ.i=true:=by
  have h1:=KE hord
  rw[List.pairwise_reverse,List.pairwise_map] at h1
  have h2:T.Pairwise fun x y=>x.i < y.i→uC all (lv x) (lv y)=true→((Region.before all).getD y.i 0).testBit x.i=true:=h1.imp fun h _ hc=>h hc
  intro τ hτ τ' hτ'
  by_cases he:τ=τ'
  ·subst he
   intro h
   omega
  ·rcases pair_of hpw h2 hτ hτ' he with h | ⟨h3,_⟩
   ·exact h
   ·intro h
    omega
 have hdone : ∀(listed:Array Bool) (γ:Nat→Option G) (Pr:Nat→Nat→Prop) (a:Act) (w:World),Zx all base T σ γ0 listed w0 X Pr0 γ Pr a w→(∀ j,j < all.size→listed.getD j false=true)→Q .normal a w:=by
  intro listed γ Pr a w hM hl
  have e : ∀ τ∈T,listed.getD τ.i false=true:=fun τ hτ=>hl _ (hlt τ hτ)
  have h1:=hM.inv
  rw[Ah (S':=fun _=>true) e,Ai (S':=fun _=>true) e] at h1
  refine hQ γ Pr a w h1 hM.low fun r hr => ?_
  have hge:all.size≤(r - base) / 64:=(Nat.le_div_iff_mul_le (by omega)).2 (by omega)
  have hun:listed.getD ((r - base) / 64) false=false:=by
   rw[co_,ek_ (by rw[hM.size]; exact hge)]
   rfl
  have hdm:=Nat.div_add_mod (r - base) 64
  have hml:=Nat.mod_lt (r - base) (show 0 < 64 by omega)
  exact hM.free _ hun r (by omega) (by omega)
 have hback : ∀(j:Nat) (o:Oper),all[j]? = some o → ∀ e∈o.after,Region.binds .any e=true→e.on < j:=by
  intro j o ho e he hb
  have hj:j < all.size:=(br_.1 ho).1
  have:=(cc_.1 hedge) j (dy_.2 hj)
  rw[ho] at this
  have:=(Array.all_eq_true_iff_forall_mem.1 this) e he
  rw[hb] at this
  simpa[Nat.blt_eq] using this
 intro fuel
 induction fuel with
 | zero =>
  intro listed γ Pr a w hM hf
  have hl : ∀ j,j < all.size→listed.getD j false=true:=by
   intro j hj
   cases hh:listed.getD j false with
   | true=>rfl
   | false =>
    have hmem:j∈(bu_ all.size).filter fun j => !listed.getD j false:=List.mem_filter.2 ⟨dy_.2 hj,by rw[hh]; rfl⟩
    rw[bo_ (Nat.le_zero.1 hf)] at hmem
    simp at hmem
  refine⟨?_,hdone listed γ Pr a w hM hl⟩
  apply List.eq_nil_iff_forall_not_mem.2
  intro j hj
  obtain⟨h1,o,ho,_⟩:=mem_ready.1 hj
  have hjl:j < all.size:=(br_.1 ho).1
  have:=hl j hjl
  rw[co_,cm_ (by rw[hM.size]; exact hjl)] at this h1
  simp only[ch_] at this h1
  rw[this] at h1
  cases h1
 | succ fuel ih =>
  intro listed γ Pr a w hM hf
  have hgetD : ∀ j,j < all.size→listed.getD j true=listed.getD j false:=by
   intro j hj
   rw[co_,co_,cm_ (by rw[hM.size]; exact hj)]
   rfl
  refine⟨fun hr=>hdone listed γ Pr a w hM ?_,fun i hi => ?_⟩
  ·intro j
   induction j using Nat.strongRecOn with
   | _ j ihj =>
    intro hj
    cases hh:listed.getD j false with
    | true=>rfl
    | false =>
     have:j∈Region.ready .any all listed:=mem_ready.2 ⟨by rw[hgetD j hj,hh],all[j],cm_ hj,fun e he hb=>by
      have hlt':=hback j _ (cm_ hj) e he hb
      exact ihj e.on hlt' (by omega)⟩
     rw[hr] at this
     simp at this
  ·obtain⟨h1,o,ho,hpre⟩:=mem_ready.1 hi
   have hil:i < all.size:=(br_.1 ho).1
   obtain⟨τ,hτ,rfl⟩:=hall i hil
   have hoτ:=hTo τ hτ
   rw[ho] at hoτ
   cases hoτ
   have hSi:listed.getD τ.i false=false:=by rw[←hgetD _ hil]; exact h1
   have hpast : ∀ τ'∈T,τ'.i < τ.i→uC all (lv τ') (lv τ)=true→listed.getD τ'.i false=true:=by
    intro τ' hτ' hl hc
    exact HF (S:=fun j=>listed.getD j false=true) hM.closed τ.i τ'.i (fun o' ho' e he hb=>by
     rw[ho] at ho'
     cases ho'
     exact hpre e he hb) (hcl τ' hτ' τ hτ hl hc)
   have hnext : ∀ τ'∈T,τ.i < τ'.i→uC all (lv τ) (lv τ')=true→listed.getD τ'.i false=false:=by
    intro τ' hτ' hl hc
    cases hh:listed.getD τ'.i false with
    | false=>rfl
    | true =>
     have:=HF (S:=fun j=>listed.getD j false=true) hM.closed τ'.i τ.i (fun o' ho' e he hb=>hM.closed τ'.i o' hh ho' e he hb) (hcl τ hτ τ' hτ' hl hc)
     simp only[hSi] at this
     cases this
   have hclash : ∀(x y:Tr),x∈T→y∈T→uC all (lv x) (lv y)=(ku x.o.dst.toList (y.o.dst.toList++mf all y.o) || ku y.o.dst.toList (mf all x.o) || ku (x.u.map (·.1)) (y.see++y.u.map (·.1)) || ku (y.u.map (·.1)) x.see):=by
    intro x y hx hy
    unfold uC
    rw[show(lv x).i=x.i from rfl,show(lv y).i=y.i from rfl,hTo x hx,hTo y hy]
    rfl
   have hsl : ∀ t,t∈mf all τ.o→gZ (jg (fun j=>listed.getD j false) T σ.slots) t=gZ (jg (fun j=>decide (j < τ.i)) T σ.slots) t:=by
    intro t ht
    refine EF (fun τ' hτ' hd => ?_) rfl rfl
    show listed.getD τ'.i false=decide (τ'.i < τ.i)
    rcases Nat.lt_trichotomy τ'.i τ.i with h | h | h
    ·rw[hpast τ' hτ' h (by rw[hclash τ' τ hτ' hτ,hd]; simp[p3 (l:=[t]) (m:=τ.o.dst.toList++mf all τ.o) (r:=t) (by simp) (dk_ _ ht)])]
     simp[h]
    ·rw[h,hSi]
     simp
    ·rw[hnext τ' hτ' h (by rw[hclash τ τ' hτ hτ',hd]; simp[p3 (l:=[t]) (m:=mf all τ.o) (r:=t) (by simp) ht])]
     simp
     omega
   have hgl : ∀ r,r∈τ.see→jX (fun j=>listed.getD j false) T (aC σ.res) r=jX (fun j=>decide (j < τ.i)) T (aC σ.res) r:=by
    intro r hr
    refine KC (fun τ' hτ' hd => ?_) rfl
    show listed.getD τ'.i false=decide (τ'.i < τ.i)
    rcases Nat.lt_trichotomy τ'.i τ.i with h | h | h
    ·rw[hpast τ' hτ' h (by rw[hclash τ' τ hτ' hτ]; simp[p3 (m:=τ.see++τ.u.map (·.1)) hd (dw_ _ hr)])]
     simp[h]
    ·rw[h,hSi]
     simp
    ·rw[hnext τ' hτ' h (by rw[hclash τ τ' hτ hτ']; simp[p3 (m:=τ.see) hd hr])]
     simp
     omega
   obtain⟨hg,hran,hskip⟩:=hok τ hτ
   have hargs:(dV τ.o.op).map (ev (jg (fun j=>listed.getD j false) T σ.slots))=(dV τ.o.op).map (ev (jg (fun j=>decide (j < τ.i)) T σ.slots)):=by
    apply List.map_congr_left
    intro x hx
    refine UQ fun t ht=>hsl t ?_
    subst ht
    exact dw_ _ (PN hx)
   have hg':iC all τ.o (jg (fun j=>listed.getD j false) T σ.slots) τ.ran:=by
    unfold iC at hg ⊢
    split at hg
    ·exact hg
    ·rename_i j want hgd
     obtain⟨d,h2,h3⟩:=hg
     refine⟨d,h2,?_⟩
     rw[hsl d ?_]
     ·exact h3
     ·unfold mf
      rw[hgd]
      refine dk_ _ ?_
      simp only[h2]
      simp
   obtain⟨res,hcore,hknow⟩ : ∃ res,(τ.ran=true→cM E call τ.o ((dV τ.o.op).map (ev (jg (fun j=>listed.getD j false) T σ.slots))) res (base+64*τ.i) cK=some (τ.v,τ.u)) ∧ ∀ r x,aC res r=some x→jX (fun j=>listed.getD j false) T (aC σ.res) r=some x:=by
    cases hr:τ.ran with
    | false=>exact⟨[],fun h=>(by cases h),fun r x h=>(by simp[aC] at h)⟩
    | true =>
     obtain⟨res,h2,h3⟩:=hran hr
     refine⟨res,fun _=>by rw[hargs]; exact h2,fun r x hx => ?_⟩
     obtain⟨h4,h5⟩:=h3 r x hx
     rw[hgl r h4]
     exact h5
   refine Kz hS hE hM.inv ho hg' hcore hknow hskip (hM.free τ.i hSi) ?_
   intro a' w' γ' Pr' hI' hγ'
   have hset : ∀ j,(listed.setIfInBounds τ.i true).getD j false=(listed.getD j false || j == τ.i):=by
    intro j
    by_cases hj:τ.i=j
    ·subst hj
     have:τ.i < listed.size:=by rw[hM.size]; exact hil
     simp[this]
    ·rw[getD_set_ne false hj]
     have:(j == τ.i)=false:=by
      rw[beq_eq_false_iff_ne]
      exact fun e=>hj e.symm
     rw[this,Bool.or_false]
   refine ih (listed.setIfInBounds τ.i true) γ' Pr' a' w' ⟨?_,?_,?_,?_,?_⟩ ?_
   ·rw[Array.size_setIfInBounds]
    exact hM.size
   ·intro b o' hb ho' e he hbd
    rw[hset] at hb
    refine getD_set_true ?_
    by_cases hbi:b=τ.i
    ·subst hbi
     rw[ho] at ho'
     cases ho'
     exact hpre e he hbd
    ·have hb':listed.getD b false=true:=by simpa[hbi] using hb
     exact hM.closed b o' hb' ho' e he hbd
   ·have e1:(fun j=>(listed.setIfInBounds τ.i true).getD j false)=fun j=>listed.getD j false || j == τ.i:=funext hset
    rw[e1]
    rw[EG (S:=fun j=>listed.getD j false) hSi hτ hnd (fun τ' hτ' hs hlt' t hd hd'=>by
     have hm1:ku (some t).toList ((some t).toList++mf all τ'.o)=true:=p3 (r:=t) (by simp) (by simp)
     have:=hnext τ' hτ' hlt' (by rw[hclash τ τ' hτ hτ',hd,hd',hm1]; rfl)
     rw[this] at hs
     cases hs) hpw]
    rw[EH (S:=fun j=>listed.getD j false) hSi hτ hnd (fun τ' hτ' hs hlt' r hr hr'=>by
     have:=hnext τ' hτ' hlt' (by rw[hclash τ τ' hτ hτ']; simp[p3 (m:=τ'.see++τ'.u.map (·.1)) hr (dk_ _ hr')])
     rw[this] at hs
     cases hs) hpw]
    exact hI'
   ·intro r hr
    rw[hγ' r (by rintro⟨h2,_⟩; omega)]
    exact hM.low r hr
   ·intro j hj r h2 h3
    rw[hset] at hj
    simp only[er_,beq_eq_false_iff_ne] at hj
    have hne:=hj.2
    rw[hγ' r (by
     rintro⟨h4,h5⟩
     rcases Nat.lt_or_gt_of_ne hne with h | h <;> omega)]
    exact hM.free j hj.1 r h2 h3
   ·have:=Aj (l:=bu_ all.size) (p:=fun j => !listed.getD j false) (q:=fun j => !(listed.setIfInBounds τ.i true).getD j false) (fun x _ hx=>by
     rw[hset] at hx
     simp only[cz_,er_] at hx ⊢
     exact hx.1) ⟨τ.i,dy_.2 hil,by rw[hSi]; rfl,by rw[hset]; simp⟩
    omega
where
 range_zip' (ops:Array Oper):(∀ p∈(bu_ ops.size).zip ops.toList,ops[p.1]? = some p.2)∧((bu_ ops.size).zip ops.toList).map (·.1)=bu_ ops.size:=by
  constructor
  ·intro p hp
   obtain⟨k,hk,rfl⟩:=db_ hp
   rw[List.getElem_zip]
   simp only[List.getElem_range]
   rw[←cu_]
   exact ah_ _
  ·exact List.map_fst_zip (by simp)
 pair_of {R1 R2:Tr→Tr→Prop} {T:List Tr} (h1:T.Pairwise R1) (h2:T.Pairwise R2) {x y:Tr} (hx:x∈T) (hy:y∈T) (hne:x≠y):R2 x y∨(R1 y x∧R2 y x):=by
  induction T with
  | nil=>simp at hx
  | cons t T ih =>
   rw[bs_] at h1 h2
   rcases bd_.1 hx with rfl | hx' <;> rcases bd_.1 hy with rfl | hy'
   ·exact ay_ rfl hne
   ·exact .inl (h2.1 y hy')
   ·exact .inr ⟨h1.1 x hx',h2.1 x hx'⟩
   ·exact ih h1.2 h2.2 hx' hy'
theorem UR {all:Array Oper} {id:Nat} {base:Nat} {Q:Exit→Act→World→Prop} (hm:P.follows .mixedOrders=true) (hS:kw (nG w0 X) P E call) (hE:fP P E) {γ0:Nat→Option G}
  {σ:St} {γ:Nat→Option G} {Pr:Nat→Nat→Prop} {a:Act} {w:World} (h:cT E call all true base ((bu_ all.size).zip all.toList) [] σ K=some z)
   (hI:bq w0 X Pr0 σ.slots (aC σ.res) γ Pr a w) (hlow : ∀ r,r < base→γ r=γ0 r) (hhigh : ∀ r,base≤r→γ r=none)
   (hQ : ∀ σ' γ' Pr' a' w',K σ'=some z→bq w0 X Pr0 σ'.slots (aC σ'.res) γ' Pr' a' w'→(∀ r,r < base→γ' r=γ0 r)→(∀ r,base+64*all.size≤r→γ' r=none)→σ'.n0=σ.n0→σ'.nx=σ.nx→Q .normal a' w') :
   (Code.region id all true).wp P Q a w:=by
 obtain⟨T,σ',h1,h2,h3,h4,h5,h6,h7,h8,h9⟩:=KD h (by rw[(OA.range_zip' all).2]; exact List.pairwise_lt_range)
 rw[bz_] at h8
 refine wp_region_any hm ?_
 have hnone : ∀ j,(Array.replicate all.size false).getD j false=false:=by
  intro j
  rw[co_]
  by_cases hj:j < all.size
  ·simp[hj]
  ·rw[ek_ (by simpa using hj)]
   rfl
 refine OA hS hE h1 h2 h8 h9 (fun γ' Pr' a' w' hi hl hh=>hQ σ' γ' Pr' a' w' h7 (by rw[h3,h4]; exact hi) hl hh h5 h6) all.size _ γ Pr a _ ⟨by simp,?_,?_,hlow,fun i _ r hr _=>hhigh r (by omega)⟩ ?_
 ·intro b o hb
  rw[hnone] at hb
  cases hb
 ·rw[Du (fun τ _=>hnone τ.i),Dv (fun τ _=>hnone τ.i)]
  exact⟨g6 (fun _ _ _ h=>h) (fun _ _ h=>h) hI.slots,hI.defers,hI.gs,hI.wfs,hI.res,hI.apart,hI.loose,hI.where_,hI.frame,hI.size,hI.os,hI.tape,hI.output,hI.prIn,hI.prOld,hI.pr0⟩
 ·refine bf_ (List.length_filter_le _ _) ?_
  simp
end
end Go.Proofs.YtipnjpfdlolhmaaGreatDoor.Abs
namespace Go.Proofs.YtipnjpfdlolhmaaGreatDoor.Abs
open Go Go.RowKit
theorem vz {P:Program} {c:Code} {Q Q':Exit→Act→World→Prop} (hq : ∀ e a w,Q e a w→Q' e a w) : ∀ {n m:Nat},n≤m → ∀ {a:Act} {w:World},Code.rounds P c Q n a w→Code.rounds P c Q' m a w
 | 0,_,_,_,_,h=>h.elim
 | n+1,0,hle,_,_,_=>ay_ hle (by omega)
 | n+1,m+1,hle,a,w,h=>by
  refine Code.wp_mono (fun e a w h => ?_) (show c.wp P (Exit.then (Code.rounds P c Q n) Q) a w from h)
  cases e <;> first | exact vz hq (Nat.le_of_succ_le_succ hle) h | exact hq _ _ _ h
def cI (P:Program) (n:Nat):List Fr→(Exit→Act→World→Prop)→Exit→Act→World→Prop
 | [],Q=>Q
 | .seq b :: S,Q=>Exit.then (b.wp P (cI P n S Q)) (cI P n S Q)
 | .block id :: S,Q=>Exit.inBlock id (cI P n S Q)
 | .loop b :: S,Q=>Exit.then (Code.rounds P b (cI P n S Q) n) (cI P n S Q)
section
variable {P:Program} {E:cL} {Q:Exit→Act→World→Prop}
theorem ee {n m:Nat} (h:n≤m) : ∀(S:List Fr) {e:Exit} {a:Act} {w:World},cI P n S Q e a w→cI P m S Q e a w
 | [],_,_,_,hh=>hh
 | .seq b :: S,e,a,w,hh=>by
  cases e <;> first | exact Code.wp_mono (fun _ _ _ h'=>ee h S h') hh | exact ee h S hh
 | .block id :: S,e,a,w,hh=>by
  cases e with
  | exit j =>
   show if j=id then cI P m S Q .normal a w else cI P m S Q (.exit j) a w
   have hh':if j=id then cI P n S Q .normal a w else cI P n S Q (.exit j) a w:=hh
   split at hh'
   ·rename_i hj
    rw[Z3 hj]
    exact ee h S hh'
   ·rename_i hj
    rw[Z2 hj]
    exact ee h S hh'
  | _=>exact ee h S hh
 | .loop b :: S,e,a,w,hh=>by
  cases e <;> first | exact vz (fun _ _ _ h'=>ee h S h') h hh | exact ee h S hh
theorem nH {n:Nat} : ∀(S:List Fr) {a:Act} {w:World},Q .ret a w→cI P n S Q .ret a w
 | [],_,_,h=>h
 | .seq b :: S,_,_,h=>nH S h
 | .block id :: S,_,_,h=>nH S h
 | .loop b :: S,_,_,h=>nH S h
theorem mm {n:Nat} {I:an} {id:Nat} : ∀(S:List Fr) {S':List Fr} {a:Act} {w:World},xN I id S=some S'→cI P n S' Q .normal a w→cI P n S Q (.exit id) a w
 | [],_,_,_,h,_=>by simp[xN] at h
 | .seq b :: S,_,_,_,h,k=>mm (I:=I) S h k
 | .loop b :: S,_,_,_,h,k=>mm (I:=I) S h k
 | .block j :: S,S',a,w,h,k=>by
  show if id=j then cI P n S Q .normal a w else cI P n S Q (.exit id) a w
  unfold xN at h
  by_cases hj:j=id
  ·subst hj
   have:cp_ j j=true:=by simp
   rw[this] at h
   cases h
   rw[Z3 rfl]
   exact k
  ·have:cp_ j id=false:=by
    cases hb:cp_ j id with
    | false=>rfl
    | true=>exact ay_ (be_ hb) hj
   rw[this] at h
   rw[Z2 (fun e=>hj e.symm)]
   exact mm (I:=I) S h k
end
structure At (w0:World) (X:Nat→Prop) (Pr0:Nat→Nat→Prop) (γ0:Nat→Option G) (σ:St) (γ:Nat→Option G) (Pr:Nat→Nat→Prop) (a:Act) (w:World):Prop where
 inv:bq w0 X Pr0 σ.slots (aC σ.res) γ Pr a w
 low : ∀ r,r < σ.n0→γ r=γ0 r
 high : ∀ r,σ.nx≤r→γ r=none
 le:σ.n0≤σ.nx
section
theorem Sc (r:Nat) (l:List Nat):l <+: BK r l:=by
 unfold BK
 split
 ·exact fr_
 ·exact List.prefix_append _ _
theorem qX {f:List Nat→SV→List Nat} (hf : ∀ l v,l <+: f l v) : ∀(vs:List SV) (l:List Nat),l <+: vs.foldl f l
 | [],l=>fr_
 | v :: vs,l=>(hf l v).trans (qX hf vs (f l v))
theorem qY : ∀(d:Nat) (v:SV) (l:List Nat),l <+: qA d v l
 | 0,_,_=>fr_
 | d+1,v,l=>by
  cases v <;> simp only[qA] <;> first | exact fr_ | exact Sc _ _ | exact qX (fun l v=>qY d v l) _ _
theorem oW (res:aE) : ∀(d j:Nat) (l:List Nat),l <+: sV res d j l
 | 0,_,_=>fr_
 | d+1,j,l=>by
  unfold sV
  split
  ·exact fr_
  ·split
   ·exact(qY 9 _ l).trans (oW res d (j+1) _)
   ·exact(qX (fun l v=>qY 1 v l) _ l).trans (oW res d (j+1) _)
   ·exact(qX (fun l v=>qY 1 v l) _ l).trans (oW res d (j+1) _)
   ·exact oW res d (j+1) l
theorem M9 (res:aE) (vs:List SV) (l:List Nat):l <+: k9 res vs l:=(qX (fun l v=>qY 9 v l) vs l).trans (oW res 40 0 _)
theorem p4 : ∀ n,(oH n).length=n
 | 0=>rfl
 | n+1=>by simp[oH,p4 n]
theorem KF : ∀ {n j:Nat},j < n→(oH n)[j]? = some j
 | n+1,j,h=>by
  unfold oH
  by_cases hj:j < n
  ·rw[cg_ (by rw[p4]; exact hj)]
   exact KF hj
  ·have:j=n:=by omega
   subst this
   rw[da_ (by rw[p4]; omega),p4]
   simp
variable {w0:World} {X:Nat→Prop} {Pr0:Nat→Nat→Prop} {γ0 γ:Nat→Option G} {σ:St} {Pr:Nat→Nat→Prop} {a:Act} {w:World}
theorem At.norm (h:At w0 X Pr0 γ0 σ γ Pr a w) (live:List Nat) : ∃ γ',At w0 X Pr0 γ0 (norm live σ) γ' Pr a w:=by
 have hpre:=M9 σ.res (rA live 0 σ.slots) (oH σ.n0)
 have hlen:σ.n0≤(k9 σ.res (rA live 0 σ.slots) (oH σ.n0)).length:=by
  have:=hpre.length_le
  rwa[p4] at this
 obtain⟨γ',h1,h2,h3⟩:=h.inv.norm live
 refine⟨γ',h1,?_,h2,hlen⟩
 intro r hr
 have hr':r < σ.n0:=hr
 rw[←h.low r hr']
 apply h3
 obtain⟨t,ht⟩:=hpre
 rw[←ht,cg_ (by rw[p4]; exact hr')]
 exact KF hr'
end
theorem Sd (ops:Array Oper):(∀ p∈(bu_ ops.size).zip ops.toList,ops[p.1]? = some p.2)∧((bu_ ops.size).zip ops.toList).map (·.1)=bu_ ops.size:=by
 constructor
 ·intro p hp
  obtain⟨k,hk,rfl⟩:=db_ hp
  rw[List.getElem_zip]
  simp only[List.getElem_range]
  rw[←cu_]
  exact ah_ _
 ·exact List.map_fst_zip (by simp)
section
variable {P:Program} {E:cL}
def JT (P:Program) (E:cL) (w0:World) (X:Nat→Prop) (k:Nat):Prop := ∀(I:an) {R:Type} (K:St→Option R) (c:Code) (S:List Fr) (σ:St) (z:R),run E k I K c S σ=some z → ∀(Pr0:Nat→Nat→Prop) (γ0 γ:Nat→Option G) (Pr:Nat→Nat→Prop) (a:Act) (w:World) (Q:Exit→Act→World→Prop),
 At w0 X Pr0 γ0 σ γ Pr a w→(∀ σ' γ' Pr' a' w',K σ'=some z→At w0 X Pr0 γ0 σ' γ' Pr' a' w'→σ'.n0=σ.n0→Q .normal a' w'∧Q .ret a' w') → ∀ n,k≤n→c.wp P (cI P n S Q) a w
def PO (P:Program) (E:cL) (w0:World) (X:Nat→Prop) (k:Nat):Prop := ∀(I:an) {R:Type} (K:St→Option R) (S:List Fr) (σ:St) (z:R),sZ (run E k) I K S σ=some z → ∀(Pr0:Nat→Nat→Prop) (γ0 γ:Nat→Option G) (Pr:Nat→Nat→Prop) (a:Act) (w:World) (Q:Exit→Act→World→Prop),
 At w0 X Pr0 γ0 σ γ Pr a w→(∀ σ' γ' Pr' a' w',K σ'=some z→At w0 X Pr0 γ0 σ' γ' Pr' a' w'→σ'.n0=σ.n0→Q .normal a' w'∧Q .ret a' w') → ∀ n,k≤n→cI P n S Q .normal a w
theorem Dw {I:an} {R:Type} {K:St→Option R} {c:Code} {S:List Fr} {σ:St}:run E 0 I K c S σ=none:=rfl
theorem nX {k:Nat} {I:an} {R:Type} {K:St→Option R} {c:Code} {S:List Fr} {σ:St}:run E (k+1) I K c S σ=gq E (run E k) I K c S σ:=rfl
theorem Se {w0:World} {X:Nat→Prop} (k:Nat) (hR : ∀ j,j≤k→JT P E w0 X j) : ∀ j,j≤k→PO P E w0 X j:=by
 intro j
 induction j with
 | zero =>
  intro _ I R K S σ z h Pr0 γ0 γ Pr a w Q hA hQ n hn
  cases S with
  | nil=>exact(hQ σ γ Pr a w h hA rfl).1
  | cons f S=>cases f <;> (simp only[sZ,Dw] at h; cases h)
 | succ j ih =>
  intro hj I R K S σ z h Pr0 γ0 γ Pr a w Q hA hQ n hn
  cases S with
  | nil=>exact(hQ σ γ Pr a w h hA rfl).1
  | cons f S =>
   cases f with
   | seq b=>exact hR (j+1) hj I K b S σ z h Pr0 γ0 γ Pr a w Q hA hQ n hn
   | block id =>
    simp only[sZ,nX,gq] at h
    exact ih (by omega) I K S σ z h Pr0 γ0 γ Pr a w Q hA hQ n (by omega)
   | loop b =>
    simp only[sZ,nX,gq] at h
    obtain⟨m,rfl⟩ : ∃ m,n=m+1:=⟨n - 1,by omega⟩
    have:=hR j (by omega) I K b (.loop b :: S) σ z h Pr0 γ0 γ Pr a w Q hA hQ m (by omega)
    show b.wp P (Exit.then (Code.rounds P b (cI P (m+1) S Q) m) (cI P (m+1) S Q)) a w
    refine Code.wp_mono (fun e a w h => ?_) this
    cases e <;> first | exact vz (fun _ _ _ h'=>ee (by omega) S h') (ag_ _) h | exact ee (by omega) S h
theorem XX {w0:World} {X:Nat→Prop} (hm:P.follows .mixedOrders=true) (hE:fP P E) (k:Nat) (hC : ∀ j,j < k→kw (nG w0 X) P E (fb E (run E j))) : ∀ j,j≤k→JT P E w0 X j:=by
 intro j
 induction j using Nat.strongRecOn with
 | _ j ih =>
  intro hj I R K c S σ z h Pr0 γ0 γ Pr a w Q hA hQ n hn
  cases j with
  | zero=>rw[Dw] at h; cases h
  | succ j =>
   have hpop:PO P E w0 X j:=Se j (fun i hi=>ih i (by omega) (by omega)) j (ag_ _)
   have hrun:JT P E w0 X j:=ih j (by omega) (by omega)
   rw[nX] at h
   unfold gq at h
   split at h
   ·exact wp_skip (hpop I K S σ z h Pr0 γ0 γ Pr a w Q hA hQ n (by omega))
   ·rename_i id ops draw
    dsimp only at h
    have hE':fP P {E with sub:=I.sub}:=⟨hE.ty,hE.by_,hE.fns,hE.eqs⟩
    have hC' : ∀ j,j < k→kw (nG w0 X) P {E with sub:=I.sub} (fb E (run E j)):=hC
    obtain⟨σ1,γ1,hA1,hn0,h1⟩ : ∃ σ1 γ1,At w0 X Pr0 γ0 σ1 γ1 Pr a w∧σ1.n0=σ.n0∧cT {E with sub:=I.sub} (fb E (run E j)) ops draw σ1.nx ((bu_ ops.size).zip ops.toList) [] σ1 (fun σ'=>sZ (run E j) I K S {σ' with nx:=σ1.nx+64*ops.size})=some z:=by
     split at h
     ·rename_i l hl
      obtain⟨γ',hA'⟩:=hA.norm l
      exact⟨norm l σ,γ',hA',rfl,h⟩
     ·exact⟨σ,γ,hA,rfl,h⟩
    have hfin : ∀(σ':St) (γ':Nat→Option G) (Pr':Nat→Nat→Prop) (a':Act) (w':World),sZ (run E j) I K S {σ' with nx:=σ1.nx+64*ops.size}=some z→bq w0 X Pr0 σ'.slots (aC σ'.res) γ' Pr' a' w'→(∀ r,r < σ1.nx→γ' r=γ1 r)→(∀ r,σ1.nx+64*ops.size≤r→γ' r=none)→σ'.n0=σ1.n0→σ'.nx=σ1.nx→cI P n S Q .normal a' w':=by
     intro σ' γ' Pr' a' w' h2 h3 h4 h5 h6 h7
     refine hpop I K S _ z h2 Pr0 γ0 γ' Pr' a' w' Q ⟨h3,?_,h5,?_⟩ (fun σ2 γ2 Pr2 a2 w2 h8 h9 h10=>hQ σ2 γ2 Pr2 a2 w2 h8 h9 ?_) n (by omega)
     ·intro r hr
      have hr':r < σ1.n0:=by rw[←h6]; exact hr
      rw[h4 r (cj_ hr' hA1.le)]
      exact hA1.low r hr'
     ·have:=hA1.le
      show σ'.n0≤σ1.nx+64*ops.size
      omega
     ·exact h10.trans (h6.trans hn0)
    cases draw with
    | false =>
     refine wp_region ?_
     have hz:=Sd ops
     rw[←hz.2]
     refine UO (γ0:=γ1) (hC' j (by omega)) hE' h1 hz.1 (by rw[hz.2]; exact List.nodup_range) hA1.inv (fun p hp r h2 h3=>hA1.high r (by omega)) (fun r hr=>rfl) (fun p hp=>(br_.1 (hz.1 p hp)).1) (fun r hr=>hA1.high r (by omega)) ?_
     intro σ' γ' Pr' a' w' h2 h3 h4 h5 h6 h7
     exact hfin σ' γ' Pr' a' w' h2 h3 h4 h5 h6 h7
    | true=>exact UR hm (hC' j (by omega)) hE' (γ0:=γ1) h1 hA1.inv (fun r hr=>rfl) hA1.high hfin
   ·rename_i x y
    refine wp_seq ?_
    exact hrun I K x (.seq y :: S) σ z h Pr0 γ0 γ Pr a w Q hA hQ n (by omega)
   ·rename_i cnd x y
    split at h
    ·rename_i b hb
     have hev:=JS hA.inv.slots cnd
     rw[hb] at hev
     have hbv:=iH hev
     split at h
     ·rename_i hbt
      rw[show b=true from hbt] at hbv
      exact wp_cond_true hbv (hrun I K x S σ z h Pr0 γ0 γ Pr a w Q hA hQ n (by omega))
     ·rename_i hbf
      have hbf':b=false:=by
       cases hh:(b:Bool) with
       | true=>exact ay_ hh hbf
       | false=>rfl
      rw[hbf'] at hbv
      exact wp_cond_false hbv (hrun I K y S σ z h Pr0 γ0 γ Pr a w Q hA hQ n (by omega))
    ·cases h
   ·rename_i id x
    refine wp_block ?_
    exact hrun I K x (.block id :: S) σ z h Pr0 γ0 γ Pr a w Q hA hQ n (by omega)
   ·rename_i x
    refine wp_loop_rounds (n+1) ?_
    exact hrun I K x (.loop x :: S) σ z h Pr0 γ0 γ Pr a w Q hA hQ n (by omega)
   ·rename_i id
    split at h
    ·rename_i S' hS'
     cases j with
     | zero=>rw[Dw] at h; cases h
     | succ j =>
      have hpop':PO P E w0 X j:=Se j (fun i hi=>ih i (by omega) (by omega)) j (ag_ _)
      rw[nX] at h
      simp only[gq] at h
      exact wp_exit (mm (I:=I) S hS' (hpop' I K S' σ z h Pr0 γ0 γ Pr a w Q hA hQ n (by omega)))
    ·cases h
   ·exact wp_ret (nH S (hQ σ γ Pr a w h hA rfl).2)
   ·cases h
end
end Go.Proofs.YtipnjpfdlolhmaaGreatDoor.Abs
namespace Go.Proofs.YtipnjpfdlolhmaaGreatDoor.Abs
open Go Go.RowKit
def oX (γ γr:Nat→Option G) (ro:List Nat) (n:Nat):Prop := ∀(i r:Nat),ro[i]? = some r→γr (n+i)=γ r
theorem oX.left {γ γr:Nat→Option G} {a b:List Nat} {n:Nat} (h:oX γ γr (a++b) n):oX γ γr a n:=fun i r hr=>h i r (by
 rw[cg_ (ar_.1 hr).1]
 exact hr)
theorem oX.right {γ γr:Nat→Option G} {a b:List Nat} {n:Nat} (h:oX γ γr (a++b) n):oX γ γr b (n+a.length):=fun i r hr=>by
 have:=h (a.length+i) r (by
  rw[da_ (by omega)]
  simpa using hr)
 rwa[←dc_] at this
section
variable {L:Lk} {γ γr:Nat→Option G} {res:aE} {fr:List Nat}
theorem KG {t:Ty} {v:SV} {x:t.den} (h:fZ res (.val t) v=some x):dd res 9 t v=some x:=by
 cases v <;> exact h
theorem s9 {e:TypeId} {t:Ty} {b:Bool} {v:SV} {x:List t.den} (h:fZ res (.row e t b) v=some x) : ∃ r,v = .row r∧aC res r=some (.row e t x b):=by
 cases v <;> first | (cases h; done) | skip
 rename_i r
 have h':(match aC res r with
  | some (.row e' s xs fr')=>match (b == fr') with
   | true=>im? (t := .slice e' s) (.slice e t) xs
   | false=>none
  | _=>none)=some x:=h
 split at h'
 ·rename_i e' s xs fr' hg
  split at h'
  ·rename_i hb
   obtain⟨he,hx⟩:=jj h'
   cases he
   have hx:xs=x:=hx
   subst hx
   have:b=fr':=by simpa using hb
   subst this
   exact⟨r,rfl,hg⟩
  ·cases h'
 ·cases h'
theorem oY {s:Sh} {v:SV} {x:s.den} (h:fZ res (.strct s) v=some x) : ∃ l,v = .strct l∧fZ.go res s l=some x:=by
 cases v <;> first | (cases h; done) | skip
 rename_i l
 exact⟨l,rfl,h⟩
theorem km {a b:Sh} {l:List SV} {x:(Sh.pair a b).den} (h:fZ.go res (.pair a b) l=some x) : ∃ v l',l=v :: l'∧fZ res a v=some x.1∧fZ.go res b l'=some x.2:=by
 cases l with
 | nil=>cases h
 | cons v l =>
  have h':((fZ res a v).bind fun x=>(fZ.go res b l).bind fun y=>some (x,y))=some x:=h
  rw[ab_] at h'
  obtain⟨x1,h1,h'⟩:=h'
  rw[ab_] at h'
  obtain⟨x2,h2,h'⟩:=h'
  cases h'
  exact⟨v,l,rfl,h1,h2⟩
theorem Ak {l:List SV} {x:Sh.unit.den} (h:fZ.go res .unit l=some x):l=[]:=by
 cases l with
 | nil=>rfl
 | cons v l=>cases h
theorem gQ (hR:iI L γ res (fun r=>r∈fr)) (hT:oL γ res) : ∀(s:Sh),(∀(t0:Ty) (v:SV) (cs:List Value) (x:s.den) (n:Nat),RT L γ t0 v cs→fZ res s v=some x→(∀ r∈eV s v,r∈fr)→oX γ γr (aF s v) n → ∃ t,xM s=some t∧RT L γr t (aG s x n).1 cs) ∧
  (∀(t0:Ty) (l:List SV) (cs:List Value) (x:s.den) (n:Nat),gt L γ t0 l cs→fZ.go res s l=some x→(∀ r∈eV.go s l,r∈fr)→oX γ γr (aF.go s l) n → ∃ t,xM.go s=some t∧gt L γr t (aG.go s x n).1 cs)
 | .val t=>⟨fun t0 v cs x n hv h hf hn=>by
   have hk:=s4 hR 9 9 (ag_ _) (by
    intro r hr
    exact hf r (by cases v <;> exact hr)) hv (KG h)
   exact⟨t,rfl,.val hk⟩,fun t0 l cs x n hv h hf hn=>by cases l <;> cases h⟩
 | .row e t b=>⟨fun t0 v cs x n hv h hf hn=>by
   obtain⟨r,rfl,hg⟩:=s9 h
   cases hv with
   | row hγ =>
    obtain⟨v',hv'⟩:=hT r e t x (.inl ⟨b,hg⟩)
    rw[hγ] at hv'
    cases hv'
    refine⟨_,rfl,RT.row ?_⟩
    have:=hn 0 r rfl
    rw[dq_] at this
    rw[this]
    exact hγ,fun t0 l cs x n hv h hf hn=>by cases l <;> cases h⟩
 | .unit=>⟨(fun t0 v cs x n hv h hf hn=>by cases v <;> cases h),fun t0 l cs x n hv h hf hn=>by
   have:=Ak h
   subst this
   cases hv
   exact⟨.unit,rfl,.nil⟩⟩
 | .ptr t=>⟨(fun t0 v cs x n hv h hf hn=>by cases v <;> cases h),fun t0 l cs x n hv h hf hn=>by cases l <;> cases h⟩
 | .strct s=>⟨fun t0 v cs x n hv h hf hn=>by
   obtain⟨l,rfl,h'⟩:=oY h
   cases hv with
   | strct hl =>
    obtain⟨t,h1,h2⟩:=(gQ hR hT s).2 _ l cs x n hl h' hf hn
    refine⟨.agg t,?_,.strct h2⟩
    show(xM.go s).map Ty.agg=_
    rw[h1]
    rfl,fun t0 l cs x n hv h hf hn=>by cases l <;> cases h⟩
 | .pair a b=>⟨(fun t0 v cs x n hv h hf hn=>by cases v <;> cases h),fun t0 l cs x n hv h hf hn=>by
   obtain⟨v,l',rfl,h1,h2⟩:=km h
   cases hv with
   | cons hv hk =>
    have hro:aF.go (.pair a b) (v :: l')=aF a v++aF.go b l':=rfl
    rw[hro] at hn
    have hc:=(give_count a).1 v x.1 n h1
    obtain⟨t1,h3,h4⟩:=(gQ hR hT a).1 _ v _ x.1 n hv h1 (fun r hr=>hf r (dw_ _ hr)) hn.left
    obtain⟨t2,h5,h6⟩:=(gQ hR hT b).2 _ l' _ x.2 (aG a x.1 n).2.2 hk h2 (fun r hr=>hf r (dk_ _ hr)) (by rw[hc]; exact hn.right)
    refine⟨.pair t1 t2,?_,.cons h4 h6⟩
    show((xM a).bind fun t=>(xM.go b).map fun u=>Ty.pair t u)=_
    rw[h3,h5]
    rfl⟩
where
 give_count : ∀(s:Sh),(∀(v:SV) (x:s.den) (n:Nat),fZ res s v=some x→(aG s x n).2.2=n+(aF s v).length)∧(∀(l:List SV) (x:s.den) (n:Nat),fZ.go res s l=some x→(aG.go s x n).2.2=n+(aF.go s l).length)
  | .val t=>⟨fun v x n h=>by cases v <;> rfl,fun l x n h=>by cases l <;> cases h⟩
  | .row e t b=>⟨fun v x n h=>by
    obtain⟨r,rfl,hg⟩:=s9 h
    rfl,fun l x n h=>by cases l <;> cases h⟩
  | .unit=>⟨(fun v x n h=>by cases v <;> cases h),fun l x n h=>by
    have:=Ak h
    subst this
    rfl⟩
  | .ptr t=>⟨(fun v x n h=>by cases v <;> cases h),fun l x n h=>by cases l <;> cases h⟩
  | .strct s=>⟨fun v x n h=>by
    obtain⟨l,rfl,h'⟩:=oY h
    exact(give_count s).2 l x n h',fun l x n h=>by cases l <;> cases h⟩
  | .pair a b=>⟨(fun v x n h=>by cases v <;> cases h),fun l x n h=>by
    obtain⟨v,l',rfl,h1,h2⟩:=km h
    show(aG.go b x.2 (aG a x.1 n).2.2).2.2=n+(aF a v++aF.go b l').length
    rw[(give_count b).2 l' x.2 _ h2,(give_count a).1 v x.1 n h1,Z7]
    omega⟩
theorem BQ (hR:iI L γ res (fun r=>r∈fr)) (hT:oL γ res) {s:Sh} {v:SV} {u:Value} {x:s.den} {n:Nat} (hv:RV L γ v u) (h:fZ res s v=some x) (hf : ∀ r∈eV s v,r∈fr) (hn:oX γ γr (aF s v) n):RV L γr (aG s x n).1 u:=by
 cases s with
 | val t =>
  obtain⟨cs,rfl,hk⟩:=g7 hR (d':=9) (ag_ _) (by
   intro r hr
   exact hf r (by cases v <;> exact hr)) hv (KG h)
  exact .val hk
 | row e t b =>
  obtain⟨r,rfl,hg⟩:=s9 h
  cases hv with
  | row hγ =>
   have:=hn 0 r rfl
   rw[dq_] at this
   exact .row (this.trans hγ)
 | unit=>cases v <;> cases h
 | ptr t=>cases v <;> cases h
 | pair a b=>cases v <;> cases h
 | strct s =>
  obtain⟨l,rfl,h'⟩:=oY h
  cases hv with
  | strct hl =>
   obtain⟨t,h1,h2⟩:=(gQ hR hT s).2 _ l _ x n hl h' hf hn
   exact .strct h2
theorem qZ : ∀(s:Sh),(∀(v:SV) (x:s.den) (n:Nat),fZ res s v=some x → ∀ p∈(aG s x n).2.1,∃(i r:Nat) (e:TypeId) (t:Ty) (xs:List t.den) (b:Bool),p=(n+i,some (.row e t xs b))∧(aF s v)[i]? = some r∧aC res r=some (.row e t xs b)) ∧
  (∀(l:List SV) (x:s.den) (n:Nat),fZ.go res s l=some x → ∀ p∈(aG.go s x n).2.1,∃(i r:Nat) (e:TypeId) (t:Ty) (xs:List t.den) (b:Bool),p=(n+i,some (.row e t xs b))∧(aF.go s l)[i]? = some r∧aC res r=some (.row e t xs b))
 | .val t=>⟨fun v x n h p hp=>by simp[aG] at hp,fun l x n h=>by cases l <;> cases h⟩
 | .row e t b=>⟨fun v x n h p hp=>by
   obtain⟨r,rfl,hg⟩:=s9 h
   simp only[aG,bc_] at hp
   exact⟨0,r,e,t,x,b,hp,rfl,hg⟩,fun l x n h=>by cases l <;> cases h⟩
 | .unit=>⟨(fun v x n h=>by cases v <;> cases h),fun l x n h p hp=>by simp[aG.go] at hp⟩
 | .ptr t=>⟨(fun v x n h p hp=>by cases v <;> cases h),fun l x n h=>by cases l <;> cases h⟩
 | .strct s=>⟨fun v x n h p hp=>by
   obtain⟨l,rfl,h'⟩:=oY h
   exact(qZ s).2 l x n h' p hp,fun l x n h=>by cases l <;> cases h⟩
 | .pair a b=>⟨(fun v x n h=>by cases v <;> cases h),fun l x n h p hp=>by
   obtain⟨v,l',rfl,h1,h2⟩:=km h
   have hp':p∈(aG a x.1 n).2.1++(aG.go b x.2 (aG a x.1 n).2.2).2.1:=hp
   have hro:aF.go (.pair a b) (v :: l')=aF a v++aF.go b l':=rfl
   rw[hro]
   rcases bx_.1 hp' with hp | hp
   ·obtain⟨i,r,e,t,xs,b',h3,h4,h5⟩:=(qZ a).1 v x.1 n h1 p hp
    exact⟨i,r,e,t,xs,b',h3,by rw[cg_ (ar_.1 h4).1]; exact h4,h5⟩
   ·obtain⟨i,r,e,t,xs,b',h3,h4,h5⟩:=(qZ b).2 l' x.2 _ h2 p hp
    have hc:=(gQ.give_count a).1 v x.1 n h1
    refine⟨(aF a v).length+i,r,e,t,xs,b',?_,?_,h5⟩
    ·rw[h3,hc,dc_]
    ·rw[da_ (by omega)]
     simpa using h4⟩
variable {n0:Nat}
theorem uF {t:Ty} {v:SV} {x:t.den} (h:qC n0 res (.ptr t) v=some x) : ∃ r c,v = .ptr r t []∧n0≤r∧aC res r=some (.box t c)∧dd [] 9 t c=some x:=by
 unfold qC at h
 cases v <;> first | (cases h; done) | skip
 rename_i r s p
 cases p with
 | cons _ _=>cases h
 | nil =>
  simp only at h
  split at h
  ·rename_i t' c hb hg
   split at h
   ·rename_i hs
    split at h
    ·rename_i ht
     subst hs
     subst ht
     exact⟨r,c,rfl,Nat.le_of_ble_eq_true hb,hg,h⟩
    ·cases h
   ·cases h
  ·cases h
theorem nf {a b:Sh} {l:List SV} {x:(Sh.pair a b).den} (h:lC n0 res (.pair a b) l=some x) : ∃ v l',l=v :: l'∧qC n0 res a v=some x.1∧lC n0 res b l'=some x.2:=by
 cases l with
 | nil=>cases h
 | cons v l =>
  have h':((qC n0 res a v).bind fun x=>(lC n0 res b l).bind fun y=>some (x,y))=some x:=h
  rw[ab_] at h'
  obtain⟨x1,h1,h'⟩:=h'
  rw[ab_] at h'
  obtain⟨x2,h2,h'⟩:=h'
  cases h'
  exact⟨v,l,rfl,h1,h2⟩
theorem qF {l:List SV} {x:Sh.unit.den} (h:lC n0 res .unit l=some x):l=[]:=by
 cases l with
 | nil=>rfl
 | cons v l=>cases h
theorem Al : ∀(s:Sh) (v:SV) (x:s.den) (n:Nat),qC n0 res s v=some x→(aG s x n).2.2=n+(aF s v).length:=by
 intro s v x n h
 cases s with
 | val t=>exact(gQ.give_count (res:=res) (.val t)).1 v x n h
 | row e t b=>exact(gQ.give_count (res:=res) (.row e t b)).1 v x n h
 | strct s=>exact(gQ.give_count (res:=res) (.strct s)).1 v x n h
 | pair a b =>
  have h':fZ res (.pair a b) v=some x:=h
  cases v <;> cases h'
 | unit=>cases v <;> rfl
 | ptr t =>
  obtain⟨r,c,rfl,_⟩:=uF h
  rfl
theorem EI : ∀(s:Sh) (l:List SV) (x:s.den) (n:Nat),lC n0 res s l=some x→(aG.go s x n).2.2=n+(aF.go s l).length
 | .val t,l,x,n,h=>by cases l <;> cases h
 | .row e t b,l,x,n,h=>by cases l <;> cases h
 | .strct s,l,x,n,h=>by cases l <;> cases h
 | .ptr t,l,x,n,h=>by cases l <;> cases h
 | .unit,l,x,n,h=>by
  have:=qF h
  subst this
  rfl
 | .pair a b,l,x,n,h=>by
  obtain⟨v,l',rfl,h1,h2⟩:=nf h
  show(aG.go b x.2 (aG a x.1 n).2.2).2.2=n+(aF a v++aF.go b l').length
  rw[EI b l' x.2 _ h2,Al a v x.1 n h1,Z7]
  omega
theorem XY (hR:iI L γ res (fun r=>r∈fr)) (hT:oL γ res) {s:Sh} {v:SV} {u:Value} {x:s.den} {n:Nat} (hv:RV L γ v u) (h:qC n0 res s v=some x) (hf : ∀ r∈eV s v,r∈fr) (hn:oX γ γr (aF s v) n):RV L γr (aG s x n).1 u:=by
 cases s with
 | val t=>exact BQ hR hT hv (s := .val t) h hf hn
 | row e t b=>exact BQ hR hT hv (s := .row e t b) h hf hn
 | strct s=>exact BQ hR hT hv (s := .strct s) h hf hn
 | pair a b=>exact BQ hR hT hv (s := .pair a b) h hf hn
 | unit=>exact .undef
 | ptr t =>
  obtain⟨r,c,rfl,_⟩:=uF h
  cases hv with
  | ptr hk hp =>
   have h1:=hn 0 r rfl
   rw[dq_] at h1
   exact .ptr (h1.trans hk) hp
theorem KH (hR:iI L γ res (fun r=>r∈fr)) (hT:oL γ res) : ∀(s:Sh) (l:List SV) (us:List Value) (x:s.den) (n:Nat),cC L γ l us→lC n0 res s l=some x→(∀ r∈eV.go s l,r∈fr)→oX γ γr (aF.go s l) n→cC L γr (aG.go s x n).1 us
 | .val t,l,us,x,n,hv,h,hf,hn=>by cases l <;> cases h
 | .row e t b,l,us,x,n,hv,h,hf,hn=>by cases l <;> cases h
 | .strct s,l,us,x,n,hv,h,hf,hn=>by cases l <;> cases h
 | .ptr t,l,us,x,n,hv,h,hf,hn=>by cases l <;> cases h
 | .unit,l,us,x,n,hv,h,hf,hn=>by
  have:=qF h
  subst this
  cases hv
  exact .nil
 | .pair a b,l,us,x,n,hv,h,hf,hn=>by
  obtain⟨v,l',rfl,h1,h2⟩:=nf h
  cases hv with
  | cons hv hk =>
   have hro:aF.go (.pair a b) (v :: l')=aF a v++aF.go b l':=rfl
   rw[hro] at hn
   have hc:=Al a v x.1 n h1
   exact .cons (XY hR hT hv h1 (fun r hr=>hf r (dw_ _ hr)) hn.left)
    (KH hR hT b l' _ x.2 (aG a x.1 n).2.2 hk h2 (fun r hr=>hf r (dk_ _ hr)) (by rw[hc]; exact hn.right))
def qG (n0:Nat) (res:aE) (r:Nat) (y:aZ):Prop:=(∃(e:TypeId) (t:Ty) (xs:List t.den) (b:Bool),y = .row e t xs b∧aC res r=some y) ∨ ∃(t:Ty) (c:SV) (x:t.den),y = .box t (ii (.val t x))∧n0≤r∧aC res r=some (.box t c)∧dd [] 9 t c=some x
theorem qG.old {r:Nat} {y:aZ} (h:qG n0 res r y) : ∃ y0,aC res r=some y0∧(∀(γ:Nat→Option G) r,be γ r y0=be γ r y) ∧ ∀ o,ji y0 o→ji y o:=by
 rcases h with⟨e,t,xs,b,rfl,hg⟩ | ⟨t,c,x,rfl,_,hg,_⟩
 ·exact⟨_,hg,fun _ _=>rfl,fun _ h=>h⟩
 ·exact⟨_,hg,fun _ _=>rfl,fun _ h=>h⟩
theorem US : ∀(s:Sh) (v:SV) (x:s.den) (n:Nat),qC n0 res s v=some x→(∀ p∈(aG s x n).2.1,∃(i r:Nat) (y:aZ),p=(n+i,some y)∧(aF s v)[i]? = some r∧qG n0 res r y):=by
 intro s v x n h p hp
 have old:(fZ res s v=some x) → ∃(i r:Nat) (y:aZ),p=(n+i,some y)∧(aF s v)[i]? = some r∧qG n0 res r y:=fun h=>by
  obtain⟨i,r,e,t,xs,b,h1,h2,h3⟩:=(qZ s).1 v x n h p hp
  exact⟨i,r,_,h1,h2,.inl ⟨e,t,xs,b,rfl,h3⟩⟩
 cases s with
 | val t=>exact old h
 | row e t b=>exact old h
 | strct s=>exact old h
 | pair a b=>exact old h
 | unit=>simp[aG] at hp
 | ptr t =>
  obtain⟨r,c,rfl,h1,h2,h3⟩:=uF h
  simp only[aG,bc_] at hp
  exact⟨0,r,_,hp,rfl,.inr ⟨t,c,x,rfl,h1,h2,h3⟩⟩
theorem HH : ∀(s:Sh) (l:List SV) (x:s.den) (n:Nat),lC n0 res s l=some x → ∀ p∈(aG.go s x n).2.1,∃(i r:Nat) (y:aZ),p=(n+i,some y)∧(aF.go s l)[i]? = some r∧qG n0 res r y
 | .val t,l,x,n,h=>by cases l <;> cases h
 | .row e t b,l,x,n,h=>by cases l <;> cases h
 | .strct s,l,x,n,h=>by cases l <;> cases h
 | .ptr t,l,x,n,h=>by cases l <;> cases h
 | .unit,l,x,n,h=>fun p hp=>by simp[aG.go] at hp
 | .pair a b,l,x,n,h=>fun p hp=>by
  obtain⟨v,l',rfl,h1,h2⟩:=nf h
  have hp':p∈(aG a x.1 n).2.1++(aG.go b x.2 (aG a x.1 n).2.2).2.1:=hp
  have hro:aF.go (.pair a b) (v :: l')=aF a v++aF.go b l':=rfl
  rw[hro]
  rcases bx_.1 hp' with hp | hp
  ·obtain⟨i,r,y,h3,h4,h5⟩:=US a v x.1 n h1 p hp
   exact⟨i,r,y,h3,by rw[cg_ (ar_.1 h4).1]; exact h4,h5⟩
  ·obtain⟨i,r,y,h3,h4,h5⟩:=HH b l' x.2 _ h2 p hp
   have hc:=Al a v x.1 n h1
   refine⟨(aF a v).length+i,r,y,?_,?_,h5⟩
   ·rw[h3,hc,dc_]
   ·rw[da_ (by omega)]
    simpa using h4
end
end Go.Proofs.YtipnjpfdlolhmaaGreatDoor.Abs
namespace Go.Proofs.YtipnjpfdlolhmaaGreatDoor.Abs
open Go Go.RowKit
section
variable {L:Lk} {γ γr:Nat→Option G} {res:aE} {fr:List Nat}
theorem XZ {n0:Nat} {s:Sh} {v:SV} {x:s.den} (h:qC n0 res s v=some x):v ≠ .undef:=by
 rintro rfl
 cases s <;> first | (cases h; done) | skip
theorem OB {n0:Nat} : ∀ {s:Sh} {l:List SV} {x:s.den},lC n0 res s l=some x → ∀ v∈l,v ≠ .undef
 | .val t,l,x,h=>by cases l <;> cases h
 | .row e t b,l,x,h=>by cases l <;> cases h
 | .strct s,l,x,h=>by cases l <;> cases h
 | .ptr t,l,x,h=>by cases l <;> cases h
 | .unit,l,x,h=>by
  have:=qF h
  subst this
  intro v hv
  simp at hv
 | .pair a b,l,x,h=>by
  obtain⟨v,l',rfl,h1,h2⟩:=nf h
  intro u hu
  rcases bd_.1 hu with rfl | hu
  ·exact XZ h1
  ·exact OB h2 u hu
theorem tc : ∀(s:Sh),(∀(v:SV) (x:s.den),fZ res s v=some x → ∀ r∈aF s v,∃(e:TypeId) (t:Ty) (xs:List t.den) (b:Bool),aC res r=some (.row e t xs b)) ∧
  (∀(l:List SV) (x:s.den),fZ.go res s l=some x → ∀ r∈aF.go s l,∃(e:TypeId) (t:Ty) (xs:List t.den) (b:Bool),aC res r=some (.row e t xs b))
 | .val t=>⟨fun v x h r hr=>by cases v <;> simp[aF] at hr,fun l x h=>by cases l <;> cases h⟩
 | .row e t b=>⟨fun v x h r hr=>by
   obtain⟨r',rfl,hg⟩:=s9 h
   have:r=r':=by simpa[aF] using hr
   subst this
   exact⟨e,t,x,b,hg⟩,fun l x h=>by cases l <;> cases h⟩
 | .unit=>⟨fun v x h=>(by cases v <;> cases h),fun l x h r hr=>by
   have:=Ak h
   subst this
   simp[aF.go] at hr⟩
 | .ptr t=>⟨fun v x h=>(by cases v <;> cases h),fun l x h=>by cases l <;> cases h⟩
 | .strct s=>⟨fun v x h=>by
   obtain⟨l,rfl,h'⟩:=oY h
   exact(tc s).2 l x h',fun l x h=>by cases l <;> cases h⟩
 | .pair a b=>⟨fun v x h=>(by cases v <;> cases h),fun l x h r hr=>by
   obtain⟨v,l',rfl,h1,h2⟩:=km h
   have hr':r∈aF a v++aF.go b l':=hr
   rcases bx_.1 hr' with hr | hr
   ·exact(tc a).1 v x.1 h1 r hr
   ·exact(tc b).2 l' x.2 h2 r hr⟩
theorem WO {n0:Nat} : ∀(s:Sh) (v:SV) (x:s.den),qC n0 res s v=some x → ∀ r∈aF s v,∃ y,qG n0 res r y:=by
 intro s v x h r hr
 have old:fZ res s v=some x → ∃ y,qG n0 res r y:=fun h=>by
  obtain⟨e,t,xs,b,hg⟩:=(tc s).1 v x h r hr
  exact⟨_,.inl ⟨e,t,xs,b,rfl,hg⟩⟩
 cases s with
 | val t=>exact old h
 | row e t b=>exact old h
 | strct s=>exact old h
 | pair a b=>exact old h
 | unit=>cases v <;> simp[aF] at hr
 | ptr t =>
  obtain⟨r',c,rfl,h1,h2,h3⟩:=uF h
  have:r=r':=by simpa[aF] using hr
  subst this
  exact⟨_,.inr ⟨t,c,x,rfl,h1,h2,h3⟩⟩
theorem KI {n0:Nat} : ∀(s:Sh) (l:List SV) (x:s.den),lC n0 res s l=some x → ∀ r∈aF.go s l,∃ y,qG n0 res r y
 | .val t,l,x,h=>by cases l <;> cases h
 | .row e t b,l,x,h=>by cases l <;> cases h
 | .strct s,l,x,h=>by cases l <;> cases h
 | .ptr t,l,x,h=>by cases l <;> cases h
 | .unit,l,x,h=>fun r hr=>by
  have:=qF h
  subst this
  simp[aF.go] at hr
 | .pair a b,l,x,h=>fun r hr=>by
  obtain⟨v,l',rfl,h1,h2⟩:=nf h
  have hr':r∈aF a v++aF.go b l':=hr
  rcases bx_.1 hr' with hr | hr
  ·exact WO a v x.1 h1 r hr
  ·exact KI b l' x.2 h2 r hr
theorem q4 {rb:Bool} (hR:iI L γ res (fun r=>r∈fr)) (hT:oL γ res) : ∀(tab:aE) (s:Sh) (cs:List SV) (y:s.den) (n:Nat) (ub:List (Option aZ)),mg rb res tab=some cs→fZ.go res s cs=some y→cJ rb tab (aG.go s y n).1 (qB s)=some ub →
  (∀ r∈eV.go s cs,r∈fr)→oX γ γr (aF.go s cs) n → ∀(j:Nat) (t:Ty) (c':SV),ub[j]? = some (some (.box t c')) → ∃(key:Nat) (c c0:SV),tab[j]? = some (key,.box t c0)∧aC res key=some (.box t c) ∧ ∀ cells,RT L γ t c cells→RT L γr t c' cells
 | [],s,cs,y,n,ub,_,_,hb,_,_,j,t,c',hj=>by
  have:=(jH hb).1
  rw[bo_ this] at hj
  simp at hj
 | (k,.row e t0 xs fr0) :: l,s,cs,y,n,ub,hbx,ho,hb,hf,hn,j,t,c',hj=>by
  cases rb with
  | false =>
   unfold cJ at hb
   simp only[ab_,ap_] at hb
   obtain⟨u',h1,rfl⟩:=hb
   have hbx':mg false res l=some cs:=hbx
   cases j with
   | zero=>simp at hj
   | succ j =>
    obtain⟨key,c,c0,h2,h3,h4⟩:=q4 hR hT l s cs y n u' hbx' ho h1 hf hn j t c' (by simpa using hj)
    exact⟨key,c,c0,by simpa using h2,h3,h4⟩
  | true =>
   unfold mg at hbx
   simp only[ab_,ap_] at hbx
   obtain⟨cs',h1,rfl⟩:=hbx
   cases s with
   | val _=>cases ho
   | row _ _ _=>cases ho
   | strct _=>cases ho
   | ptr _=>cases ho
   | unit=>cases ho
   | pair a b =>
    obtain⟨v,l',he,h2,h3⟩:=km ho
    cases he
    have hro:aF.go (.pair a b) (.row k :: cs')=aF a (.row k)++aF.go b cs':=rfl
    rw[hro] at hn
    have hc:=(gQ.give_count a).1 (.row k) y.1 n h2
    have hmk:(aG.go (.pair a b) y n).1=(aG a y.1 n).1 :: (aG.go b y.2 (aG a y.1 n).2.2).1:=rfl
    rw[hmk] at hb
    have hst:qB (.pair a b)=xM a :: qB b:=rfl
    rw[hst] at hb
    unfold cJ at hb
    simp only at hb
    split at hb
    ·rename_i m1 vs1 s1 ts1 hv1 hs1
     obtain⟨_,rfl⟩:=fn_ hv1
     obtain⟨_,rfl⟩:=fn_ hs1
     simp only[ab_,ap_] at hb
     obtain⟨u',h4,rfl⟩:=hb
     cases j with
     | zero=>simp at hj
     | succ j =>
      obtain⟨key,c1,c2,h5,h6,h7⟩:=q4 hR hT l b cs' y.2 (aG a y.1 n).2.2 u' h1 h3 h4 (fun r hr=>hf r (dk_ _ hr)) (by rw[hc]; exact hn.right) j t c' (by simpa using hj)
      exact⟨key,c1,c2,by simpa using h5,h6,h7⟩
    ·cases hb
 | (k,.old e t0 xs) :: l,s,cs,y,n,ub,hbx,ho,hb,hf,hn,j,t,c',hj=>by
  unfold cJ at hb
  simp only[ab_] at hb
  obtain⟨u',h1,he⟩:=hb
  cases he
  cases j with
  | zero=>simp at hj
  | succ j =>
   obtain⟨key,c,c0,h2,h3,h4⟩:=q4 hR hT l s cs y n u' hbx ho h1 hf hn j t c' (by simpa using hj)
   exact⟨key,c,c0,by simpa using h2,h3,h4⟩
 | (k,.gone e t0 xs) :: l,s,cs,y,n,ub,hbx,ho,hb,hf,hn,j,t,c',hj=>by
  unfold cJ at hb
  simp only[ab_] at hb
  obtain⟨u',h1,he⟩:=hb
  cases he
  cases j with
  | zero=>simp at hj
  | succ j =>
   obtain⟨key,c,c0,h2,h3,h4⟩:=q4 hR hT l s cs y n u' hbx ho h1 hf hn j t c' (by simpa using hj)
   exact⟨key,c,c0,by simpa using h2,h3,h4⟩
 | (k,.keepF g0 caps0) :: l,s,cs,y,n,ub,hbx,ho,hb,hf,hn,j,t,c',hj=>by
  unfold cJ at hb
  simp only[ab_] at hb
  obtain⟨u',h1,he⟩:=hb
  cases he
  cases j with
  | zero=>simp at hj
  | succ j =>
   obtain⟨key,c,c0,h2,h3,h4⟩:=q4 hR hT l s cs y n u' hbx ho h1 hf hn j t c' (by simpa using hj)
   exact⟨key,c,c0,by simpa using h2,h3,h4⟩
 | (k,.rowP g0 caps0) :: l,s,cs,y,n,ub,hbx,ho,hb,hf,hn,j,t,c',hj=>by
  unfold cJ at hb
  simp only[ab_] at hb
  obtain⟨u',h1,he⟩:=hb
  cases he
  cases j with
  | zero=>simp at hj
  | succ j =>
   obtain⟨key,c,c0,h2,h3,h4⟩:=q4 hR hT l s cs y n u' hbx ho h1 hf hn j t c' (by simpa using hj)
   exact⟨key,c,c0,by simpa using h2,h3,h4⟩
 | (k,.box t0 c0) :: l,s,cs,y,n,ub,hbx,ho,hb,hf,hn,j,t,c',hj=>by
  unfold mg at hbx
  split at hbx
  ·rename_i t' c hg
   split at hbx
   ·rename_i htt
    subst htt
    rw[ab_] at hbx
    obtain⟨cs',h1,he⟩:=hbx
    cases he
    cases s with
    | val _=>cases ho
    | row _ _ _=>cases ho
    | strct _=>cases ho
    | ptr _=>cases ho
    | unit=>cases ho
    | pair a b =>
     obtain⟨v,l',he,h2,h3⟩:=km ho
     cases he
     have hro:aF.go (.pair a b) (c :: cs')=aF a c++aF.go b cs':=rfl
     rw[hro] at hn
     have hc:=(gQ.give_count a).1 c y.1 n h2
     have hmk:(aG.go (.pair a b) y n).1=(aG a y.1 n).1 :: (aG.go b y.2 (aG a y.1 n).2.2).1:=rfl
     rw[hmk] at hb
     have hst:qB (.pair a b)=xM a :: qB b:=rfl
     rw[hst] at hb
     unfold cJ at hb
     split at hb
     ·rename_i v1 vs1 s1 ts1 hv1 hs1
      cases hv1
      obtain⟨hs2,rfl⟩:=fn_ hs1
      split at hb
      ·rename_i hs1t
       rw[ab_] at hb
       obtain⟨u',h4,he⟩:=hb
       cases he
       cases j with
       | zero =>
        simp only[List.getElem?_cons_zero,ap_,aZ.box.injEq] at hj
        obtain⟨rfl,rfl⟩:=hj
        refine⟨k,c,c0,rfl,hg,fun cells hcells => ?_⟩
        obtain⟨t2,h5,h6⟩:=(gQ hR hT a).1 _ c cells y.1 n hcells h2 (fun r hr=>hf r (dw_ _ hr)) hn.left
        rw[hs2] at h5
        cases h5
        rw[←hs1t]
        exact h6
       | succ j =>
        obtain⟨key,c1,c2,h5,h6,h7⟩:=q4 hR hT l b cs' y.2 (aG a y.1 n).2.2 u' h1 h3 h4 (fun r hr=>hf r (dk_ _ hr)) (by rw[hc]; exact hn.right) j t c' (by simpa using hj)
        exact⟨key,c1,c2,by simpa using h5,h6,h7⟩
      ·cases hb
     ·cases hb
   ·cases hbx
  ·cases hbx
theorem ox {rb:Bool} : ∀(tab:aE) (s:Sh) (cs:List SV) (y:s.den) (n:Nat),mg rb res tab=some cs→fZ.go res s cs=some y→oX γ γr (aF.go s cs) n → ∀ p∈dq rb tab (aG.go s y n).1,γr p.1=γ p.2
 | [],s,cs,y,n,_,_,_,p,hp=>by
  generalize (aG.go s y n).1=bs at hp
  cases bs <;> simp[dq] at hp
 | (k,.box t0 c0) :: l,s,cs,y,n,hbx,ho,hn,p,hp=>by
  unfold mg at hbx
  split at hbx
  ·split at hbx
   ·simp only[ab_,ap_] at hbx
    obtain⟨cs',h1,rfl⟩:=hbx
    cases s with
    | val _=>cases ho
    | row _ _ _=>cases ho
    | strct _=>cases ho
    | ptr _=>cases ho
    | unit=>cases ho
    | pair a b =>
     obtain⟨v,l',he,h2,h3⟩:=km ho
     cases he
     have hro : ∀ c,aF.go (.pair a b) (c :: cs')=aF a c++aF.go b cs':=fun _=>rfl
     rw[hro] at hn
     have hc:=(gQ.give_count a).1 _ y.1 n h2
     have hp':p∈dq rb l (aG.go b y.2 (aG a y.1 n).2.2).1:=hp
     exact ox l b cs' y.2 _ h1 h3 (by rw[hc]; exact hn.right) p hp'
   ·cases hbx
  ·cases hbx
 | (k,.old e t0 xs) :: l,s,cs,y,n,hbx,ho,hn,p,hp=>ox l s cs y n hbx ho hn p (by unfold dq at hp; exact hp)
 | (k,.gone e t0 xs) :: l,s,cs,y,n,hbx,ho,hn,p,hp=>ox l s cs y n hbx ho hn p (by unfold dq at hp; exact hp)
 | (k,.keepF g0 caps0) :: l,s,cs,y,n,hbx,ho,hn,p,hp=>ox l s cs y n hbx ho hn p (by unfold dq at hp; exact hp)
 | (k,.rowP g0 caps0) :: l,s,cs,y,n,hbx,ho,hn,p,hp=>ox l s cs y n hbx ho hn p (by unfold dq at hp; exact hp)
 | (k,.row e t0 xs fr0) :: l,s,cs,y,n,hbx,ho,hn,p,hp=>by
  cases rb with
  | false =>
   have hbx':mg false res l=some cs:=hbx
   exact ox l s cs y n hbx' ho hn p (by unfold dq at hp; exact hp)
  | true =>
   unfold mg at hbx
   simp only[ab_,ap_] at hbx
   obtain⟨cs',h1,rfl⟩:=hbx
   cases s with
   | val _=>cases ho
   | row _ _ _=>cases ho
   | strct _=>cases ho
   | ptr _=>cases ho
   | unit=>cases ho
   | pair a b =>
    obtain⟨v,l',he,h2,h3⟩:=km ho
    cases he
    have hro:aF.go (.pair a b) (.row k :: cs')=aF a (.row k)++aF.go b cs':=rfl
    rw[hro] at hn
    have hc:=(gQ.give_count a).1 (.row k) y.1 n h2
    have hmk:(aG.go (.pair a b) y n).1=(aG a y.1 n).1 :: (aG.go b y.2 (aG a y.1 n).2.2).1:=rfl
    rw[hmk] at hp
    unfold dq at hp
    simp only at hp
    split at hp
    ·rename_i m vs hv
     obtain⟨hv1,rfl⟩:=fn_ hv
     rcases bd_.1 hp with rfl | hp
     ·cases a with
      | val t=>cases hv1
      | row e' t' fr' =>
       have hv2:SV.row n = .row m:=hv1
       cases hv2
       have:=hn.left 0 k rfl
       simpa using this
      | unit=>cases h2
      | pair _ _=>cases h2
      | strct _=>cases h2
      | ptr _=>cases h2
     ·exact ox l b cs' y.2 _ h1 h3 (by rw[hc]; exact hn.right) p hp
    ·simp at hp
theorem KJ : ∀ {u:Up} {get:Nat→Option aZ} {m:Nat} {y:aZ},bz get u m=some y→(m,some y)∈u∨get m=some y
 | [],get,m,y,h => .inr h
 | (k,x) :: u,get,m,y,h=>by
  rcases KJ (u:=u) (show bz (fun s=>if s=k then x else get s) u m=some y from h) with h2 | h2
  ·exact .inl (af_ _ h2)
  ·by_cases hk:m=k
   ·rw[Z3 hk] at h2
    subst hk
    rw[h2]
    exact .inl (by simp)
   ·rw[Z2 hk] at h2
    exact .inr h2
end
section
variable {P:Program} {E:cL} {w0:World} {X:Nat→Prop} {Pr0:Nat→Nat→Prop} {γ:Nat→Option G} {Pr:Nat→Nat→Prop} {a:Act} {w:World} {σ:St}
abbrev p5 (a:Act):ResultVar→Sem Value:=fun
 | .tmp t=>pure (a.tmps.getD t undef)
 | .cell c t=>do loadVar t (←asAddr (a.tmps.getD c undef))
theorem Sf (hE:fP P E) (hI:bq w0 X Pr0 σ.slots (aC σ.res) γ Pr a w) (rv:ResultVar) (hne:given E σ rv ≠ .undef) : ∃ val,(p5 a rv).run P w = .ok val w∧RV (Ln Pr w) γ (given E σ rv) val:=by
 cases rv with
 | tmp t=>exact⟨_,rfl,JS hI.slots (.tmp t)⟩
 | cell c T =>
  have hev:=JS hI.slots (.tmp c)
  simp only[ev,Act.eval] at hev
  simp only[given] at hne ⊢
  split at hne
  ·rename_i r s path t hsl hT
   split at hne
   ·rename_i bt c' hg
    split at hne
    ·rename_i v hv
     split at hne
     ·rename_i hst
      subst hst
      rw[hsl] at hev
      obtain⟨cs,h1,h2⟩:=Dn (P:=P) hI hev hg (bZ hE hT).2 hv
      refine⟨mk s cs,?_,?_⟩
      ·generalize hx:a.tmps.getD c undef=x at *
       cases hev with
       | ptr hb hp =>
        simp only[Instr.loadAt,Instr.sureAddr,aq_,av_,ai_] at h1
        simp only[p5,hx,asAddr,aq_,av_,ai_]
        exact h1
      ·simp only[hsl,hT,hg,hv,Z3]
       exact PH h2
     ·exact ay_ rfl hne
    ·exact ay_ rfl hne
   ·exact ay_ rfl hne
  ·exact ay_ rfl hne
theorem EJ (hE:fP P E) (hI:bq w0 X Pr0 σ.slots (aC σ.res) γ Pr a w) : ∀(l:List ResultVar),(∀ v∈l.map (given E σ),v ≠ .undef) → ∃ vals,(l.mapM (p5 a)).run P w = .ok vals w∧cC (Ln Pr w) γ (l.map (given E σ)) vals
 | [],_=>⟨[],by simp,.nil⟩
 | rv :: l,h=>by
  obtain⟨val,h1,h2⟩:=Sf hE hI rv (h _ (by simp))
  obtain⟨vals,h3,h4⟩:=EJ hE hI l (fun v hv=>h v (by rw[bb_]; exact af_ _ hv))
  refine⟨val :: vals,?_,.cons h2 h4⟩
  simp only[List.mapM_cons,aq_,h1,ai_,h3,av_]
theorem Na {fn:Func} {vals:List Value} (h:(fn.results.toList.mapM (p5 a)).run P w = .ok vals w):(results fn a.tmps).run P w = .ok (Af vals) w:=by
 have hm:(fn.results.mapM (p5 a)).run P w = .ok vals.toArray w:=by
  rw[Array.mapM_eq_mapM_toList,Sem.run_map,h]
  rfl
 show(do let vs ←fn.results.mapM (p5 a); pure (if h:vs.size=1 then vs[0] else .tuple vs):Sem Value).run P w=_
 simp only[aq_,hm,ai_,av_]
 congr 1
 match vals with
 | []=>rfl
 | [v]=>rfl
 | v :: v' :: l =>
  rw[dif_neg (by simp)]
  rfl
theorem KK {Gp:WP} (hE:fP P E) (hP:wB Gp P E) {k:Nat} (hR : ∀ w0 X,Gp w0 X→JT P E w0 X k):kw Gp P E (fb E (run E k)):=by
 intro I args tab z key hg hz
 unfold fb at hz
 split at hz
 ·rename_i f hf
  exact hP I f key hg hf args tab z hz
 intro hcanon w γ Pr us hGp hI hlim N hN vs u n bs u' n' ub hmk1 hmk2 hub
 obtain⟨hfn,hbody,_⟩:=hE.fns key I hg
 obtain⟨c,hc⟩ : ∃ c,I.fn.body=some c:=by
  cases hb:I.fn.body with
  | none=>rw[hb] at hbody; cases hbody
  | some c=>exact⟨c,rfl⟩
 have hbo:aR I.fn=c:=by unfold aR; rw[hc]
 refine calls_of_wp hfn hc ?_
 have hlen:args.length=us.length:=Oi hI.slots
 have hrep : ∀ m,cC (Ln Pr w) γ (az_ m .undef) (az_ m undef):=by
  intro m
  induction m with
  | zero=>exact .nil
  | succ m ih=>exact .cons .undef ih
 have hI0:bq w (mQ tab γ) Pr (start I args tab).slots (aC (start I args tab).res) γ Pr {tmps:=us.toArray++Array.replicate (I.fn.ntmps - us.toArray.size) undef,defers:=[]} w:=by
  refine⟨?_,rfl,hI.gs,hI.wfs,hI.res,hI.apart,hI.loose,hI.where_,hI.frame,hI.size,hI.os,hI.tape,hI.output,hI.prIn,hI.prOld,hI.pr0⟩
  show cC (Ln Pr w) γ (args++az_ (I.fn.ntmps - args.length) .undef) (us.toArray++Array.replicate (I.fn.ntmps - us.toArray.size) undef).toList
  have:(us.toArray++Array.replicate (I.fn.ntmps - us.toArray.size) undef).toList=us++az_ (I.fn.ntmps - us.length) undef:=by simp
  rw[this,hlen]
  exact xU hI.slots (hrep _)
 have hz':run E k I (ft E I tab) c [] (start I args tab)=some z:=by rw[←hbo]; exact hz
 refine hR w (mQ tab γ) hGp I (ft E I tab) c [] (start I args tab) z hz' Pr γ γ Pr _ w (bodyPost P I.fn _) ⟨hI0,fun _ _=>rfl,hlim,ag_ _⟩ ?_ k (ag_ _)
 intro σ' γ' Pr' a' w' hfin hA hn0
 have key:a'.defers=[] ∧ ∃ v,(results I.fn a'.tmps).run P w' = .ok v w' ∧ ∃ vals γr Pr2,Ending.returned v = .returned (Af vals)∧vy w (mQ tab γ) γ Pr N n' vs ub (u++u') vals γr Pr2 w' ∧ ∀ p∈dq I.rb tab bs,γr p.1=γ p.2:=by
  refine⟨hA.inv.defers,?_⟩
  unfold ft at hfin
  simp only[ab_] at hfin
  obtain⟨x,hx,cs,hcs,y,hy,hfin⟩:=hfin
  split at hfin
  ·rename_i honce hmeet
   cases hfin
   obtain⟨vals,hrun,hvals⟩:=EJ hE hA.inv I.fn.results.toList (OB hx)
   refine⟨Af vals,Na hrun,vals,?_⟩
   obtain⟨Pr2,hI2,hP2,hR2,hsame,_,hkeep⟩:=jG (res:=σ'.res) hA.inv (fun r x h=>h) (eV.go I.sh (I.fn.results.toList.map (given E σ'))++eV.go I.bx cs)
   have hT2:oL γ' σ'.res:=hA.inv.tys (fun r x h=>h)
   have hL2 : ∀ b o v,Ln Pr' w' b o v→Ln Pr2 w' b o v:=fun b o v h=>⟨hP2 _ _ h.1,h.2⟩
   have hnd:=Ds honce
   have hn0':σ'.n0=tab.length:=hn0
   have hnumb:oX γ' (fun m=>if N≤m then((bW I.sh (I.fn.results.toList.map (given E σ'))++bW I.bx cs)[m - N]?).bind γ' else none) (bW I.sh (I.fn.results.toList.map (given E σ'))++bW I.bx cs) N:=by
    intro i r hr
    show(if N≤N+i then _ else none)=_
    rw[Z3 (by omega),fl_,hr]
    rfl
   have hcnt1:n=N+(bW I.sh (I.fn.results.toList.map (given E σ'))).length:=by
    have:=EI I.sh _ x N hx
    have h2:(aG.go I.sh x N).2.2=n:=by
     have h3:aG.go I.sh x N=(vs,u,n):=hmk1
     rw[h3]
    rw[←h2]
    exact this
   have hcnt2:n'=N+(bW I.sh (I.fn.results.toList.map (given E σ'))++bW I.bx cs).length:=by
    have:=(gQ.give_count I.bx).2 _ y n hy
    have h2:(aG.go I.bx y n).2.2=n':=by
     have h3:aG.go I.bx y n=(bs,u',n'):=hmk2
     rw[h3]
    rw[←h2,this,hcnt1,Z7,dc_]
    rfl
   have hvs:vs=(aG.go I.sh x N).1:=by
    have h3:aG.go I.sh x N=(vs,u,n):=hmk1
    rw[h3]
   have hbs:bs=(aG.go I.bx y n).1:=by
    have h3:aG.go I.bx y n=(bs,u',n'):=hmk2
    rw[h3]
   have hro : ∀ r∈bW I.sh (I.fn.results.toList.map (given E σ'))++bW I.bx cs,∃ y1,qG tab.length σ'.res r y1:=by
    intro r hr
    rcases bx_.1 hr with hr | hr
    ·exact KI I.sh _ x hx r hr
    ·obtain⟨e,t,xs,b,hg⟩:=(tc I.bx).2 _ y hy r hr
     exact⟨_,.inl ⟨e,t,xs,b,rfl,hg⟩⟩
   have hget2 : ∀ r∈bW I.sh (I.fn.results.toList.map (given E σ'))++bW I.bx cs,bz (aC σ'.res) (cl σ'.res (eV.go I.sh (I.fn.results.toList.map (given E σ'))++eV.go I.bx cs)) r=aC σ'.res r:=fun r hr=>hsame r (fun h=>ot hmeet r hr h)
   have hrows : ∀ m w1,lJ (u++u') m=some w1 → ∃(i r:Nat),m=N+i∧(bW I.sh (I.fn.results.toList.map (given E σ'))++bW I.bx cs)[i]? = some r∧qG tab.length σ'.res r w1:=by
    intro m w1 h
    rcases KJ h with h | h
    ·have hu1:u=(aG.go I.sh x N).2.1:=by
      have h3:aG.go I.sh x N=(vs,u,n):=hmk1
      rw[h3]
     have hu2:u'=(aG.go I.bx y n).2.1:=by
      have h3:aG.go I.bx y n=(bs,u',n'):=hmk2
      rw[h3]
     rcases bx_.1 h with h | h
     ·rw[hu1] at h
      obtain⟨i,r,y1,h1,h2,h3⟩:=HH I.sh _ x N hx _ h
      cases h1
      exact⟨i,r,rfl,(cg_ (ar_.1 h2).1).trans h2,h3⟩
     ·rw[hu2] at h
      obtain⟨i,r,e,t,xs,b,h1,h2,h3⟩:=(qZ I.bx).2 _ y n hy _ h
      cases h1
      refine⟨(bW I.sh (I.fn.results.toList.map (given E σ'))).length+i,r,by rw[hcnt1,dc_],?_,.inl ⟨e,t,xs,b,rfl,h3⟩⟩
      rw[da_ (by omega),fl_]
      exact h2
    ·cases h
   have hinj : ∀(i i' r:Nat),(bW I.sh (I.fn.results.toList.map (given E σ'))++bW I.bx cs)[i]? = some r→(bW I.sh (I.fn.results.toList.map (given E σ'))++bW I.bx cs)[i']? = some r→i=i':=by
    intro i i' r h h'
    exact(List.getElem?_inj (ar_.1 h).1 hnd).1 (h.trans h'.symm)
   have hblk : ∀(i r:Nat) (y:aZ),(bW I.sh (I.fn.results.toList.map (given E σ'))++bW I.bx cs)[i]? = some r→be (fun m=>if N≤m then((bW I.sh (I.fn.results.toList.map (given E σ'))++bW I.bx cs)[m - N]?).bind γ' else none) (N+i) y=be γ' r y:=by
    intro i r y h
    have:=hnumb i r h
    cases y <;> simp only[be,this]
   have hbox:=q4 (γ:=γ') (γr:=fun m=>if N≤m then((bW I.sh (I.fn.results.toList.map (given E σ'))++bW I.bx cs)[m - N]?).bind γ' else none) hR2 hT2 tab I.bx cs y n ub hcs hy (by rw[←hbs]; exact hub) (fun r hr=>dk_ _ hr) (by rw[hcnt1]; exact hnumb.right)
   have hboxγ : ∀(j:Nat) (t:Ty) (c':SV),ub[j]? = some (some (.box t c')) → ∃ c1,aC σ'.res j=some (.box t c1)∧γ' j=γ j∧bz (aC σ'.res) (cl σ'.res (eV.go I.sh (I.fn.results.toList.map (given E σ'))++eV.go I.bx cs)) j=some (.box t c1) ∧ ∀ cells,RT (Ln Pr2 w') γ' t c1 cells→RT (Ln Pr2 w') (fun m=>if N≤m then((bW I.sh (I.fn.results.toList.map (given E σ'))++bW I.bx cs)[m - N]?).bind γ' else none) t c' cells:=by
    intro j t c' hj
    obtain⟨key,c1,c0,h1,h2,h3⟩:=hbox j t c' hj
    have hkj:key=j:=hcanon j _ h1
    subst hkj
    have hjl:key < tab.length:=(ar_.1 h1).1
    refine⟨c1,h2,hA.low key (by rw[hn0']; exact hjl),?_,h3⟩
    rw[hkeep key (fun e t xs b h=>by rw[h2] at h; cases h)]
    exact h2
   refine⟨fun m=>if N≤m then((bW I.sh (I.fn.results.toList.map (given E σ'))++bW I.bx cs)[m - N]?).bind γ' else none,Pr2,rfl,?_,?_⟩
   rotate_left
   ·intro p hp
    rw[hbs] at hp
    have h1:=ox (γ:=γ') (γr:=fun m=>if N≤m then((bW I.sh (I.fn.results.toList.map (given E σ'))++bW I.bx cs)[m - N]?).bind γ' else none) tab I.bx cs y n hcs hy (by rw[hcnt1]; exact hnumb.right) p hp
    rw[←hbs] at hp
    obtain⟨j,q,h2,h3,_⟩:=jq hub p hp
    have h4:p.2 < tab.length:=by
     rw[←h3,hcanon j q h2]
     exact(ar_.1 h2).1
    rw[←hA.low p.2 (by rw[hn0']; exact h4)]
    exact h1
   constructor
   case vals =>
    rw[hvs]
    exact KH hR2 hT2 I.sh _ vals x N (g6 hL2 (fun _ _ h=>h) hvals) hx (fun r hr=>dw_ _ hr) hnumb.left
   case lim =>
    intro r g hr
    split at hr
    ·rename_i hNr
     rw[ab_] at hr
     obtain⟨s,hs,hγ⟩:=hr
     have hsl:=(ar_.1 hs).1
     refine⟨⟨hNr,by rw[hcnt2]; omega⟩,?_⟩
     obtain⟨_,⟨e,t,xs,b,rfl,hrow⟩ | ⟨t,c,x1,rfl,_,hrow,_⟩⟩:=hro s (bq_ hs)
     ·obtain⟨v,css,hv,_⟩:=hA.inv.res s _ hrow
      rw[hγ] at hv
      cases hv
      obtain⟨A,m,c,rfl⟩:=hA.inv.gs _ _ _ _ hγ
      exact .inl ⟨e,t,A,m,c,rfl⟩
     ·obtain⟨b,arr,T,hv,_⟩:=hA.inv.res s _ hrow
      rw[hγ] at hv
      cases hv
      exact .inr ⟨b,t,rfl,hA.inv.wfs _ _ _ hγ⟩
    ·cases hr
   case box =>
    intro j t c' hj
    obtain⟨c1,h1,h2,h3,h4⟩:=hboxγ j t c' hj
    obtain⟨b,arr,T,h5,h6,h7⟩:=hI2.res j _ h3
    exact⟨b,arr,T,by rw[←h2]; exact h5,h6,h7.map h4⟩
   case row =>
    intro m w1 h
    obtain⟨i,r,rfl,h1,h2⟩:=hrows m w1 h
    have hil:=(ar_.1 h1).1
    refine⟨by omega,by rw[hcnt2]; omega,?_⟩
    rcases h2 with⟨e,t,xs,b,rfl,h2⟩ | ⟨t,c,x1,rfl,_,h2,h7⟩
    ·obtain⟨v,css,h3,h4,h5,h6⟩:=hI2.res r _ ((hget2 r (bq_ h1)).trans h2)
     exact⟨v,css,(hnumb i r h1).trans h3,h4,h5,h6⟩
    ·obtain⟨b,arr,T,h3,h4,h5⟩:=hI2.res r _ ((hget2 r (bq_ h1)).trans h2)
     refine⟨b,arr,T,(hnumb i r h1).trans h3,h4,h5.map fun cs h5 => ?_⟩
     have hk:=s4 (L:=Ln Pr2 w') (γ:=γ') (res:=[]) (P:=fun _=>True) (fun r e t xs _ hh=>by rcases hh with⟨_,hh⟩ | hh <;> cases hh) 9 9 (ag_ _) (fun _ _=>trivial) h5 h7
     exact uD (.val hk) fun u hu=>by
      subst hu
      exact wy (hI2.wfs _ _ _ h3)
   case apart =>
    intro m m' y1 y2 b h h' hne hb
    obtain⟨i,r,rfl,h1,hh2⟩:=hrows m y1 h
    obtain⟨i',r',rfl,h1',hh2'⟩:=hrows m' y2 h'
    obtain⟨y1',h2,hbb,_⟩:=hh2.old
    obtain⟨y2',h2',hbb',_⟩:=hh2'.old
    rw[hblk i r _ h1,←hbb] at hb
    rw[hblk i' r' _ h1',←hbb']
    refine hI2.apart r r' y1' y2' b ((hget2 r (bq_ h1)).trans h2) ((hget2 r' (bq_ h1')).trans h2') (fun e=>hne ?_) hb
    subst e
    rw[hinj i i' r h1 h1']
   case beside =>
    intro j t c' b hj hγj m y1 h hb
    obtain⟨c1,h1,h2,h3,h4⟩:=hboxγ j t c' hj
    obtain⟨i,r,rfl,h5,hh6⟩:=hrows m y1 h
    have hjl:j < tab.length:=by
     rw[←(jH hub).1]
     exact(ar_.1 hj).1
    have hne:r≠j:=by
     rintro rfl
     rcases hh6 with⟨e,t',xs,b',rfl,h6⟩ | ⟨t',c2,x1,rfl,h6,_⟩
     ·rw[h6] at h1
      cases h1
     ·omega
    obtain⟨y1',h6,hbb,_⟩:=hh6.old
    rw[hblk i r _ h5,←hbb] at hb
    exact hI2.apart r j _ _ b ((hget2 r (bq_ h5)).trans h6) h3 hne hb (by simp[be,h2,hγj])
   case boxLoose =>
    intro j t c' b hj hγj o ho
    obtain⟨c1,h1,h2,h3,h4⟩:=hboxγ j t c' hj
    exact hI2.loose j _ b h3 (by simp[be,h2,hγj]) o ho
   case rowLoose =>
    intro m y1 b h hb o ho
    obtain⟨i,r,rfl,h1,hh2⟩:=hrows m y1 h
    obtain⟨y1',h2,hbb,hml⟩:=hh2.old
    rw[hblk i r _ h1,←hbb] at hb
    exact hml o (hI2.loose r _ b ((hget2 r (bq_ h1)).trans h2) hb o ho)
   case where_ =>
    intro m y1 b h hb
    obtain⟨i,r,rfl,h1,hh2⟩:=hrows m y1 h
    obtain⟨y1',h2,hbb,_⟩:=hh2.old
    rw[hblk i r _ h1,←hbb] at hb
    exact hI2.where_ r _ b ((hget2 r (bq_ h1)).trans h2) hb
   case frame=>exact hI2.frame
   case size=>exact hI2.size
   case os=>exact hI2.os
   case tape=>exact hI2.tape
   case output=>exact hI2.output
   case prIn=>exact hI2.prIn
   case prOld=>exact hI2.prOld
   case lean=>exact hI2.pr0
  ·cases hfin
 exact⟨key,key⟩
theorem Sg {Gp:WP} (hst:EA Gp) (hm:P.follows .mixedOrders=true) (hE:fP P E) (hP:wB Gp P E) : ∀ k,kw Gp P E (fb E (run E k)):=by
 intro k
 induction k using Nat.strongRecOn with
 | _ k ih=>exact KK hE hP fun w0 X hG=>XX hm hE k (fun j hj=>(ih j hj).weaken fun w X' hf=>hst w0 X w X' hG hf) k (ag_ _)
end
end Go.Proofs.YtipnjpfdlolhmaaGreatDoor.Abs
namespace Go.Proofs.YtipnjpfdlolhmaaGreatDoor.Abs
open Go Go.RowKit
theorem sL {α:Type} : ∀ {l:List (Nat×α)} {k:Nat} {v:α},dp l k=some v→(k,v)∈l
 | [],_,_,h=>by cases h
 | (i,x) :: l,k,v,h=>by
  unfold dp at h
  split at h
  ·rename_i hb
   cases h
   rw[be_ hb]
   simp
  ·exact af_ _ (sL h)
def PP:Value→Value→Bool
 | .int k n,.int k' m=>decide (k=k') && decide (n=m)
 | .bool a,.bool b=>a == b
 | .string s,.string t=>decide (s.data.toList=t.data.toList)
 | .slice none 0 0,.slice none 0 0=>true
 | .nilIface,.nilIface=>true
 | .nilFunc,.nilFunc=>true
 | .pointer none,.pointer none=>true
 | _,_=>false
theorem UT {a b:Value} (h:PP a b=true):a=b:=by
 unfold PP at h
 split at h
 ·simp only[Z8,Z9] at h
  rw[h.1,h.2]
 ·rw[eq_of_beq h]
 ·have h':=do_ h
  rename_i s t
  cases s
  cases t
  exact congrArg (fun d=>Value.string ⟨d⟩) (dm_.1 h')
 ·rfl
 ·rfl
 ·rfl
 ·rfl
 ·cases h
def EK:List Value→List Value→Bool
 | [],[]=>true
 | a :: l,b :: m=>PP a b && EK l m
 | _,_=>false
theorem HI : ∀ {l m:List Value},EK l m=true→l=m
 | [],[],_=>rfl
 | a :: l,b :: m,h=>by
  simp only[EK,Z8] at h
  rw[UT h.1,HI h.2]
 | [],_ :: _,h=>by cases h
 | _ :: _,[],h=>by cases h
def X0 (T:TypeId):Ty→Bool
 | .agg (.pair (.bp T') _)=>cp_ T T'
 | _=>true
theorem WQ {T:TypeId} {t:Ty} (h:X0 T t=true) : ∀ T' s,t = .agg (.pair (.bp T') s)→T=T':=by
 rintro T' s rfl
 exact be_ h
def BR (P:Program) (T:TypeId) (t:Ty):Bool:=match P.info? T,P.underlying T with
 | some i,some d=>cp_ i.size t.sz && (match i.zero with | some z=>EK z.cells.toList (zc t) | none=>false) && (Uw d == oJ t) && dF false t && X0 T t
 | _,_=>false
theorem xW {P:Program} {T:TypeId} {t:Ty} (h:BR P T t=true):fW P T t:=by
 unfold BR at h
 split at h
 ·rename_i i d hi hd
  simp only[Z8] at h
  obtain⟨⟨⟨⟨h1,h2⟩,h3⟩,h4⟩,h5⟩:=h
  split at h2
  ·rename_i z hz
   exact⟨⟨i,hi,be_ h1,z,hz,HI h2⟩,⟨d,hd,eq_of_beq h3⟩,h4,WQ h5⟩
  ·cases h2
 ·cases h
def BS (P:Program):List Field→Ty→Nat→Bool
 | [],.unit,_=>true
 | f :: fs,.pair a b,o=>cp_ f.offset o && !(f.name == "_") && Nat.blt 0 a.sz && BR P f.type a && BS P fs b (o+a.sz)
 | _,_,_=>false
theorem EL {P:Program} : ∀ {fs:List Field} {t:Ty} {o:Nat},BS P fs t o=true→Oj P fs t o
 | [],.unit,_,_=>trivial
 | f :: fs,.pair a b,o,h=>by
  simp only[BS,Z8,cz_] at h
  obtain⟨⟨⟨⟨h1,h2⟩,h3⟩,h4⟩,h5⟩:=h
  exact⟨be_ h1,fun e=>(by rw[e] at h2; simp at h2),(by simpa[Nat.blt_eq] using h3),xW h4,EL h5⟩
 | [],.int _,_,h=>by cases h
 | [],.bool,_,h=>by cases h
 | [],.err,_,h=>by cases h
 | [],.fn,_,h=>by cases h
 | [],.pt,_,h=>by cases h
 | [],.bp _,_,h=>by cases h
 | [],.str,_,h=>by cases h
 | [],.pair _ _,_,h=>by cases h
 | [],.agg _,_,h=>by cases h
 | [],.slice _ _,_,h=>by cases h
 | _ :: _,.int _,_,h=>by cases h
 | _ :: _,.bool,_,h=>by cases h
 | _ :: _,.err,_,h=>by cases h
 | _ :: _,.fn,_,h=>by cases h
 | _ :: _,.pt,_,h=>by cases h
 | _ :: _,.bp _,_,h=>by cases h
 | _ :: _,.str,_,h=>by cases h
 | _ :: _,.unit,_,h=>by cases h
 | _ :: _,.agg _,_,h=>by cases h
 | _ :: _,.slice _ _,_,h=>by cases h
def KL (P:Program) (T:TypeId) (t:Ty):Bool:=match P.underlying T,t with
 | some (.int k),.int k'=>decide (k=k')
 | some .bool,.bool=>true
 | some .string,.str=>true
 | some (.slice e),.slice e' t=>cp_ e e' && BR P e t && Nat.blt 0 t.sz && (!decide (t = .int .u8) || (match P.underlying e with | some (.int .u8)=>true | _=>false))
 | some (.struct fs),.agg t=>BS P fs.toList t 0
 | some (.interface _),.err=>true
 | some _,.fn=>true
 | some _,.pt=>true
 | some _,.bp _=>true
 | _,_=>false
theorem Si {P:Program} {T:TypeId} {t:Ty} (h:KL P T t=true):mh P T t:=by
 unfold KL at h
 split at h
 ·rename_i k k' hu
  rw[do_ h] at hu
  exact hu
 ·rename_i hu
  exact hu
 ·rename_i hu
  exact hu
 ·rename_i e e' t hu
  simp only[Z8] at h
  obtain⟨⟨⟨h1,h2⟩,h3⟩,h4⟩:=h
  have:=be_ h1
  subst this
  refine⟨hu,xW h2,(by simpa[Nat.blt_eq] using h3),fun ht => ?_⟩
  simp only[ht,decide_true,aj_,Bool.false_or] at h4
  split at h4
  ·assumption
  ·cases h4
 ·rename_i fs t hu
  exact⟨fs,hu,EL h⟩
 ·rename_i ms hu
  exact⟨ms,hu⟩
 ·trivial
 ·trivial
 ·trivial
 ·cases h
def PQ (P:Program) (g:TypeId→Ty→Bool):List Field→Ty→Nat→Bool
 | [],.unit,_=>true
 | f :: fs,.pair a b,o=>cp_ f.offset o && !(f.name == "_") && BR P f.type a && g f.type a && PQ P g fs b (o+a.sz)
 | _,_,_=>false
def nY (P:Program):Nat→TypeId→Ty→Bool
 | 0,_,_=>false
 | _+1,T,.int _=>match P.underlying T with | some (.int _)=>true | _=>false
 | _+1,T,.bool=>match P.underlying T with | some .bool=>true | _=>false
 | _+1,T,.str=>match P.underlying T with | some .string=>true | _=>false
 | d+1,T,.agg t=>match P.underlying T with
  | some (.struct fs) => !(P.stoodInHeld T) && PQ P (nY P d) fs.toList t 0
  | _=>false
 | _,_,_=>false
theorem OC {P:Program} {g:TypeId→Ty→Bool} {L:Lk} {d:Nat} {w:World} (hg : ∀ T t,g T t=true → ∀(x y:t.den) (cs ds:List Value),RK L t x cs→RK L t y ds→(Op.equalIn d T (mk t cs) (mk t ds)).run P w = .ok (bP t x y) w) :
  ∀ {fs:List Field} {t:Ty} {o:Nat},PQ P g fs t o=true → ∀ {x y:t.den} {cs ds xs ys:List Value},RK L t x cs→RK L t y ds→eG cs xs o→eG ds ys o→(Op.eqFields d xs.toArray ys.toArray fs).run P w = .ok (bP t x y) w
 | [],.unit,_,_,_,_,_,_,_,_,_,_,_,_=>rfl
 | f :: fs,.pair a b,o,h,x,y,cs,ds,xs,ys,hx,hy,hsx,hsy=>by
  simp only[PQ,Z8,cz_] at h
  obtain⟨⟨⟨⟨h1,h2⟩,h3⟩,h4⟩,h5⟩:=h
  have h1:=be_ h1
  have hn:f.name ≠ "_" := fun e=>by rw[e] at h2; simp at h2
  have hi:=xW h3
  obtain⟨c1,d1,rfl,hx1,hx2⟩:=hx
  obtain⟨c2,d2,rfl,hy1,hy2⟩:=hy
  have p1:=GA hi (eu hx1) ((eG.left c1 d1).trans hsx) w
  have p2:=GA hi (eu hy1) ((eG.left c2 d2).trans hsy) w
  rw[dq_] at p1 p2
  have s1:=(eG.right c1 d1).trans hsx
  have s2:=(eG.right c2 d2).trans hsy
  rw[eu hx1] at s1
  rw[eu hy1] at s2
  have ih:=OC hg h5 hx2 hy2 s1 s2
  have h6:=hg f.type a h4 x.1 y.1 c1 c2 hx1 hy1
  simp only[Op.eqFields,Z3 hn,h1,aq_,p1,p2,ai_,h6]
  show _=Result.ok (bP a x.1 y.1 && bP b x.2 y.2) w
  cases bP a x.1 y.1 with
  | false=>simp
  | true =>
   simp only[aj_,Bool.false_eq_true,if_false,Bool.true_and]
   exact ih
 | [],.int _,_,h,_,_,_,_,_,_,_,_,_,_=>by cases h
 | [],.bool,_,h,_,_,_,_,_,_,_,_,_,_=>by cases h
 | [],.err,_,h,_,_,_,_,_,_,_,_,_,_=>by cases h
 | [],.fn,_,h,_,_,_,_,_,_,_,_,_,_=>by cases h
 | [],.pt,_,h,_,_,_,_,_,_,_,_,_,_=>by cases h
 | [],.bp _,_,h,_,_,_,_,_,_,_,_,_,_=>by cases h
 | [],.str,_,h,_,_,_,_,_,_,_,_,_,_=>by cases h
 | [],.pair _ _,_,h,_,_,_,_,_,_,_,_,_,_=>by cases h
 | [],.agg _,_,h,_,_,_,_,_,_,_,_,_,_=>by cases h
 | [],.slice _ _,_,h,_,_,_,_,_,_,_,_,_,_=>by cases h
 | _ :: _,.int _,_,h,_,_,_,_,_,_,_,_,_,_=>by cases h
 | _ :: _,.bool,_,h,_,_,_,_,_,_,_,_,_,_=>by cases h
 | _ :: _,.err,_,h,_,_,_,_,_,_,_,_,_,_=>by cases h
 | _ :: _,.fn,_,h,_,_,_,_,_,_,_,_,_,_=>by cases h
 | _ :: _,.pt,_,h,_,_,_,_,_,_,_,_,_,_=>by cases h
 | _ :: _,.bp _,_,h,_,_,_,_,_,_,_,_,_,_=>by cases h
 | _ :: _,.str,_,h,_,_,_,_,_,_,_,_,_,_=>by cases h
 | _ :: _,.unit,_,h,_,_,_,_,_,_,_,_,_,_=>by cases h
 | _ :: _,.agg _,_,h,_,_,_,_,_,_,_,_,_,_=>by cases h
 | _ :: _,.slice _ _,_,h,_,_,_,_,_,_,_,_,_,_=>by cases h
theorem OD {P:Program} {L:Lk} {w:World} : ∀(n:Nat) (T:TypeId) (t:Ty),nY P n T t=true → ∀(d:Nat) (x y:t.den) (cs ds:List Value),RK L t x cs→RK L t y ds→(Op.equalIn (d+n) T (mk t cs) (mk t ds)).run P w = .ok (bP t x y) w
 | 0,_,_,h=>by simp[nY] at h
 | n+1,T,.int k,h=>fun d x y cs ds hx hy=>by
  rw[show cs=_ from hx,show ds=_ from hy]
  unfold nY at h
  split at h
  ·rename_i k' hu
   exact run_equalIn_int w (d+n) T k k' x y hu
  ·cases h
 | n+1,T,.bool,h=>fun d x y cs ds hx hy=>by
  rw[show cs=_ from hx,show ds=_ from hy]
  unfold nY at h
  split at h
  ·rename_i hu
   exact run_equalIn_bool' w (d+n) T x y hu
  ·cases h
 | n+1,T,.str,h=>fun d x y cs ds hx hy=>by
  rw[show cs=_ from hx,show ds=_ from hy]
  unfold nY at h
  split at h
  ·rename_i hu
   refine(run_equalIn_string w (d+n) T x y hu).trans ?_
   rw[←beq_toListBytes]
   rfl
  ·cases h
 | n+1,T,.agg t,h=>fun d x y cs ds hx hy=>by
  unfold nY at h
  split at h
  ·rename_i fs hu
   simp only[Z8,cz_] at h
   have hf:P.fieldsOf T=fs:=by simp[Program.fieldsOf,hu]
   have hu':P.underlying T=some (.struct (P.fieldsOf T)):=by rw[hf]; exact hu
   refine(run_equalIn_agg w (d+n) T cs.toArray ds.toArray hu' h.1).trans ?_
   rw[hf]
   exact OC (fun T t hT x y cs ds hx hy=>OD n T t hT d x y cs ds hx hy) h.2 (t:=t) hx hy (eG.refl cs) (eG.refl ds)
  ·cases h
 | n+1,T,.unit,h=>by simp[nY] at h
 | n+1,T,.err,h=>by simp[nY] at h
 | n+1,T,.fn,h=>by simp[nY] at h
 | n+1,T,.pt,h=>by simp[nY] at h
 | n+1,T,.bp _,h=>by simp[nY] at h
 | n+1,T,.pair _ _,h=>by simp[nY] at h
 | n+1,T,.slice _ _,h=>by simp[nY] at h
def UU (P:Program) (E:cL):Bool:=E.eqs.all fun p=>oJ p.2 && !(P.eqGuardType P.depth p.1) && nY P 8 p.1 p.2
theorem WR {P:Program} {E:cL} (h:UU P E=true) : ∀ T t,dp E.eqs T=some t→XP P T t:=by
 intro T t hT
 unfold UU at h
 rw[cc_] at h
 have:=h (T,t) (sL hT)
 simp only[Z8,cz_] at this
 refine⟨?_,this.1.2,fun L x y cs ds w hx hy=>OD 8 T t this.2 9992 x y cs ds hx hy⟩
 cases t <;> first | exact⟨_,rfl⟩ | cases this.1.1
def Sj (P:Program) (E:cL):Bool:=UU P E && (E.ty.all fun p=>KL P p.1 p.2 && BR P p.1 p.2) && E.by_.all fun p=>Nat.blt 0 p.2 && (match P.info? p.1 with | some i=>cp_ i.bytes p.2 | none=>true)
theorem UV {P:Program} {E:cL} (h:Sj P E=true) (hf : ∀ p∈E.fns,P.funcs[p.2.g]? = some p.2.fn∧p.2.fn.body.isSome=true∧(p.2.fn.name == "runtime.NumGoroutine")=false):fP P E:=by
 unfold Sj at h
 simp only[Z8,cc_] at h
 obtain⟨⟨hq,h1⟩,h2⟩:=h
 have h:=And.intro h1 h2
 refine⟨fun T t hT => ?_,fun e nb i hb hi => ?_,fun g I hg=>hf (g,I) (sL hg),WR hq⟩
 ·have:=h.1 (T,t) (sL hT)
  exact⟨Si this.1,xW this.2⟩
 ·have:=h.2 (e,nb) (sL hb)
  simp only[hi] at this
  exact⟨be_ this.2,by simpa[Nat.blt_eq] using this.1⟩
end Go.Proofs.YtipnjpfdlolhmaaGreatDoor.Abs
namespace Go.Proofs.YtipnjpfdlolhmaaGreatDoor.Abs
open Go Go.RowKit
section
variable {E:cL} {call call':(I:an)→List SV→aE→Option (I.sh.den×I.bx.den)}
theorem tf (hc : ∀ I args tab z,call I args tab=some z→call' I args tab=some z) {g key:Nat} {args:List SV} {res:aE} {r0:Nat} {p:SV×Up} (h:gM E call g key args res r0 cK=some p):gM E call' g key args res r0 cK=some p:=by
 unfold gM at h ⊢
 cases hI:dp E.fns key with
 | none=>rw[hI] at h; cases h
 | some I =>
  simp only[hI] at h ⊢
  cases hg:cp_ I.g g with
  | false=>rw[hg] at h; cases h
  | true =>
   simp only[hg] at h ⊢
   cases hv:sW res (I.fn.params.toList.map fun T=>dp E.ty T) I.own args with
   | none=>rw[hv] at h; cases h
   | some q =>
    obtain⟨args',fr⟩:=q
    simp only[hv] at h ⊢
    split at h
    ·rename_i h1 h2 h3
     rw[ab_] at h
     obtain⟨z,hz,h⟩:=h
     rw[ab_]
     exact⟨z,hc _ _ _ _ hz,h⟩
    ·cases h
theorem Nb (hc : ∀ I args tab z,call I args tab=some z→call' I args tab=some z) {g:Nat} {args:List SV} {res:aE} {r0:Nat} {p:SV×Up} (h:jp E call g args res r0 cK=some p):jp E call' g args res r0 cK=some p:=by
 unfold jp at h ⊢
 split at h
 ·exact tf hc h
 ·rename_i s hs
  rw[ab_] at h ⊢
  obtain⟨b,hb,h⟩:=h
  refine⟨b,hb,?_⟩
  split at h
  ·rename_i hb'
   rw[Z3 hb']
   exact tf hc h
  ·rename_i hb'
   rw[Z2 hb']
   exact tf hc h
theorem Sk (hc : ∀ I args tab z,call I args tab=some z→call' I args tab=some z) {o:Oper} {vs:List SV} {res:aE} {r0:Nat} {p:SV×Up} (h:cM E call o vs res r0 cK=some p):cM E call' o vs res r0 cK=some p:=by
 obtain⟨dst,op,ty,pos,after,guard⟩:=o
 cases op
 case call c =>
  obtain⟨callee,args,argTypes⟩:=c
  cases callee with
  | value f =>
   rcases vs with _ | ⟨v1,vs⟩
   ·cases h
   ·cases v1 with
    | fn g caps =>
     rcases vs with _ | ⟨v2,_ | ⟨v3,vs⟩⟩ <;> exact Nb hc h
    | _=>rcases vs with _ | ⟨v2,_ | ⟨v3,vs⟩⟩ <;> cases h
  | _=>rcases vs with _ | ⟨v1,_ | ⟨v2,_ | ⟨v3,vs⟩⟩⟩ <;> exact h
 case makeFunc fn first captured=>cases fn <;> rcases vs with _ | ⟨v1,_ | ⟨v2,_ | ⟨v3,vs⟩⟩⟩ <;> exact h
 all_goals rcases vs with _ | ⟨v1,_ | ⟨v2,_ | ⟨v3,_ | ⟨v4,vs⟩⟩⟩⟩ <;> exact h
theorem PR (hc : ∀ I args tab z,call I args tab=some z→call' I args tab=some z) {R R':Type} {K:SV→Up→Option R} {K':SV→Up→Option R'} {z:R} {z':R'} (hK : ∀ v u,K v u=some z→K' v u=some z') {o:Oper} {vs:List SV} {res:aE} {r0:Nat} (h:cM E call o vs res r0 K=some z):cM E call' o vs res r0 K'=some z':=by
 obtain⟨v,u,h1,h2⟩:=zX h
 rw[Kk,Sk hc h1]
 exact hK v u h2
theorem vA (hc : ∀ I args tab z,call I args tab=some z→call' I args tab=some z) {R:Type} {K K':St→Option R} {z:R} (hK : ∀ σ,K σ=some z→K' σ=some z) {all:Array Oper} {draw:Bool} {base:Nat} :
  ∀ {l:List (Nat×Oper)} {g:List zW} {σ:St},cT E call all draw base l g σ K=some z→cT E call' all draw base l g σ K'=some z
 | [],g,σ,h=>by
  unfold cT at h ⊢
  cases draw with
  | false=>exact hK σ h
  | true =>
   simp only at h ⊢
   split at h
   ·rename_i h1 h2
    exact hK σ h
   ·cases h
 | (i,o) :: l,g,σ,h=>by
  have act : ∀(σ:St) (b:Bool),(match b with
   | true=>cM E call o ((dV o.op).map (ev σ.slots)) (g5 σ.res (me o σ.res ((dV o.op).map (ev σ.slots)))) (base+64*i) fun v u=>match sY (base+64*i) (me o σ.res ((dV o.op).map (ev σ.slots))) u with
    | true=>cT E call all draw base l ({i,see:=me o σ.res ((dV o.op).map (ev σ.slots)),turn:=u.map (·.1)} :: g) (nV σ o.dst v u) K
    | false=>none
   | false=>cT E call all draw base l ({i,see:=[],turn:=[]} :: g) (nV σ o.dst (.tup []) []) K)=some z →
   (match b with
   | true=>cM E call' o ((dV o.op).map (ev σ.slots)) (g5 σ.res (me o σ.res ((dV o.op).map (ev σ.slots)))) (base+64*i) fun v u=>match sY (base+64*i) (me o σ.res ((dV o.op).map (ev σ.slots))) u with
    | true=>cT E call' all draw base l ({i,see:=me o σ.res ((dV o.op).map (ev σ.slots)),turn:=u.map (·.1)} :: g) (nV σ o.dst v u) K'
    | false=>none
   | false=>cT E call' all draw base l ({i,see:=[],turn:=[]} :: g) (nV σ o.dst (.tup []) []) K')=some z:=by
   intro σ b h
   cases b with
   | true =>
    refine PR hc (fun v u hh => ?_) h
    split at hh
    ·exact vA hc hK hh
    ·cases hh
   | false=>exact vA hc hK h
  unfold cT at h ⊢
  dsimp only at h ⊢
  split at h
  ·exact act σ true h
  ·rename_i j want hg
   split at h
   ·rename_i d hd
    split at h
    ·split at h
     ·rename_i hx
      rw[Z3 hx]
      exact act {σ with slots:=dA σ.slots d (.val .bool true)} (true == want) h
     ·rename_i hx
      rw[Z2 hx]
      exact act {σ with slots:=dA σ.slots d (.val .bool false)} (false == want) h
    ·exact act σ false h
    ·cases h
   ·cases h
theorem Dx (E:cL) : ∀ {k m:Nat},k≤m → ∀ {I:an} {R:Type} {K K':St→Option R} {c:Code} {S:List Fr} {σ:St} {z:R},(∀ σ,K σ=some z→K' σ=some z)→run E k I K c S σ=some z→run E m I K' c S σ=some z
 | 0,_,_,_,_,_,_,_,_,_,_,_,h=>by cases h
 | k+1,0,hle,_,_,_,_,_,_,_,_,_,_=>ay_ hle (by omega)
 | k+1,m+1,hle,I,R,K,K',c,S,σ,z,hK,h=>by
  have ih : ∀ {I:an} {R:Type} {K K':St→Option R} {c:Code} {S:List Fr} {σ:St} {z:R},(∀ σ,K σ=some z→K' σ=some z)→run E k I K c S σ=some z→run E m I K' c S σ=some z:=fun hK h=>Dx E (Nat.le_of_succ_le_succ hle) hK h
  have ihp : ∀ {S:List Fr} {σ:St},sZ (run E k) I K S σ=some z→sZ (run E m) I K' S σ=some z:=by
   intro S σ h
   cases S with
   | nil=>exact hK σ h
   | cons f S=>cases f <;> exact ih hK h
  have ihc : ∀ I args tab z,fb E (run E k) I args tab=some z→fb E (run E m) I args tab=some z:=fun I args tab z h=>by
   unfold fb at h ⊢
   split at h
   ·exact h
   ·exact ih (fun σ h=>h) h
  rw[nX] at h ⊢
  unfold gq at h ⊢
  split at h
  ·exact ihp h
  ·dsimp only at h ⊢
   exact vA ihc (fun σ' h'=>ihp h') h
  ·exact ih hK h
  ·split at h
   ·split at h
    ·rename_i hx
     rw[Z3 hx]
     exact ih hK h
    ·rename_i hx
     rw[Z2 hx]
     exact ih hK h
   ·cases h
  ·exact ih hK h
  ·exact ih hK h
  ·split at h
   ·exact ih hK h
   ·cases h
  ·exact hK σ h
  ·cases h
end
theorem Sl {E:cL} {k m:Nat} (hm:k≤m) {I:an} {args:List SV} {tab:aE} {z:I.sh.den×I.bx.den} (h:call E k I args tab=some z):call E m I args tab=some z:=by
 unfold call fb at h ⊢
 split at h
 ·exact h
 ·exact Dx E hm (fun _ h=>h) h
end Go.Proofs.YtipnjpfdlolhmaaGreatDoor.Abs
namespace Go.Proofs.YtipnjpfdlolhmaaGreatDoor.Abs
open Go Go.RowKit
def Ev {R:Type} (f:Nat→Option R) (z:R):Prop := ∃ k0,∀ k,k0≤k→f k=some z
section
variable {R R':Type} {f:Nat→Option R} {z:R}
theorem Ev.now:Ev (fun _=>some z) z:=⟨0,fun _ _=>rfl⟩
theorem Ev.later (h:Ev f z) (c:Nat):Ev (fun k=>f (k+c)) z:=by
 obtain⟨k0,h⟩:=h
 exact⟨k0,fun k hk=>h _ (by omega)⟩
theorem Ev.eqn {g:Nat→Option R} (c:Nat) (he : ∀ k,f (k+c)=g k) (h:Ev g z):Ev f z:=by
 obtain⟨k0,h⟩:=h
 refine⟨k0+c,fun k hk => ?_⟩
 have:=he (k - c)
 rw[show k - c+c=k by omega] at this
 rw[this]
 exact h _ (by omega)
theorem Ev.bind {g:R→Nat→Option R'} {y:R'} (h:Ev f z) (k:Ev (g z) y):Ev (fun n=>(f n).bind fun x=>g x n) y:=by
 obtain⟨a,h⟩:=h
 obtain⟨b,k⟩:=k
 refine⟨a+b,fun n hn => ?_⟩
 show(f n).bind _=_
 rw[h n (by omega)]
 exact k n (by omega)
theorem Ev.ite {c:Prop} [Decidable c] {g:Nat→Option R} (h1:c→Ev f z) (h2 : ¬c→Ev g z):Ev (fun k=>if c then f k else g k) z:=by
 by_cases h:c
 ·obtain⟨k0,hk⟩:=h1 h
  exact⟨k0,fun k hh=>by simp only[Z3 h]; exact hk k hh⟩
 ·obtain⟨k0,hk⟩:=h2 h
  exact⟨k0,fun k hh=>by simp only[Z2 h]; exact hk k hh⟩
theorem Ev.pos {c:Prop} [Decidable c] {g:Nat→Option R} (hc:c) (h1:Ev f z):Ev (fun k=>if c then f k else g k) z:=Ev.ite (fun _=>h1) (fun h=>ay_ hc h)
theorem Ev.neg {c:Prop} [Decidable c] {g:Nat→Option R} (hc : ¬c) (h1:Ev g z):Ev (fun k=>if c then f k else g k) z:=Ev.ite (fun h=>ay_ h hc) (fun _=>h1)
end
def tg (E:cL) (I:an) (args:List SV) (tab:aE) (z:I.sh.den×I.bx.den):Prop:=Ev (fun k=>call E k I args tab) z
theorem tg.at_ {E:cL} {I:an} {args:List SV} {tab:aE} {z:I.sh.den×I.bx.den} (h:tg E I args tab z) : ∃ k,call E k I args tab=some z:=by
 obtain⟨k,h⟩:=h
 exact⟨k,h k (ag_ _)⟩
theorem tg.of {E:cL} {I:an} {args:List SV} {tab:aE} {z:I.sh.den×I.bx.den} {k:Nat} (h:call E k I args tab=some z):tg E I args tab z :=
 ⟨k,fun m hm=>Sl hm h⟩
theorem tg.calls {P:Program} {E:cL} {Gp:WP} (hst:EA Gp) (hm:P.follows .mixedOrders=true) (hE:fP P E) (hP:wB Gp P E) {I:an} {args:List SV} {tab:aE} {z:I.sh.den×I.bx.den} (h:tg E I args tab z) {key:Nat} (hg:dp E.fns key=some I) (hcanon : ∀(k:Nat) (p:Nat×aZ),tab[k]? = some p→p.1=k)
  {w:World} {γ:Nat→Option G} {Pr:Nat→Nat→Prop} {us:List Value} (hGp:Gp w (mQ tab γ)) (hI:bq w (mQ tab γ) Pr args (aC tab) γ Pr {tmps:=us.toArray,defers:=[]} w) (hlim : ∀ r,tab.length≤r→γ r=none) {N:Nat} (hN:tab.length≤N) {vs bs:List SV} {u u':Up} {n n':Nat} {ub:List (Option aZ)}
  (h1:bV I.sh z.1 N=(vs,u,n)) (h2:bV I.bx z.2 n=(bs,u',n')) (h3:cJ I.rb tab bs (qB I.bx)=some ub) :
  Calls P I.g us.toArray w fun e w' => ∃ vals γr Pr',e = .returned (Af vals)∧vy w (mQ tab γ) γ Pr N n' vs ub (u++u') vals γr Pr' w' ∧ ∀ p∈dq I.rb tab bs,γr p.1=γ p.2:=by
 obtain⟨k,hk⟩:=h.at_
 exact Sg hst hm hE hP k I args tab z key hg hk hcanon w γ Pr us hGp hI hlim N hN vs u n bs u' n' ub h1 h2 h3
end Go.Proofs.YtipnjpfdlolhmaaGreatDoor.Abs
namespace Go.Proofs.YtipnjpfdlolhmaaGreatDoor.Abs
open Go
def kids:Code→List Code
 | .seq a b=>[a,b]
 | .cond _ a b=>[a,b]
 | .block _ a=>[a]
 | .loop a=>[a]
 | _=>[]
def at_:Code→List Nat→Code
 | c,[]=>c
 | c,i :: l=>match kids c,i with
  | a :: _,0=>at_ a l
  | [_,b],1=>at_ b l
  | _,_ => .skip
instance (t:Ty):Inhabited t.den:=⟨t.dflt⟩
def ce (e:TypeId) (t:Ty) (nb:Nat):List SV→aE→Option ((Sh.pair (.row e t false) .unit).den×Sh.unit.den)
 | [.val s xs],[]=>(im? (t:=s) (.slice e t) xs).bind fun xs=>if(xs:List t.den).length*nb≤140737488355328 then some ((xs,()),()) else none
 | _,_=>none
noncomputable def ew {α:Type} [Inhabited α] (lt:α→α→Bool) (xs:List α):List α:=(Sort.pdq lt xs.toArray 0 xs.toArray.size (ex_ xs.toArray.size) true true).toList
noncomputable def f0 (e:TypeId) (t:Ty) (g:Nat) (lt:t.den→t.den→Bool):List SV→aE→Option (Sh.unit.den×(Sh.pair (.row e t false) .unit).den)
 | [.row 0,.fn g' []],[(0,.row e' s xs false)]=>if g'=g then(im? (t := .slice e' s) (.slice e t) xs).bind fun xs=>if(xs:List t.den).length < 4611686018427387904 then some ((),ew lt (xs:List t.den),()) else none else none
 | _,_=>none
def dr (n:Int):Z0:=⟨(Lib.itoa n).toArray⟩
def BT:List SV→aE→Option ((Sh.pair (.val .str) .unit).den×Sh.unit.den)
 | [.val (.int .i64) n,.val (.int .i64) b],[]=>if(b:Int)=10 ∧ -9223372036854775808≤(n:Int)∧(n:Int)≤9223372036854775807 then some ((dr n,()),()) else none
 | _,_=>none
def th (c:Z0):Bool:=decide (c.size≤1000) && c.data.toList.all fun b=>decide (b.toNat < 128)
def oZ:List SV→aE→Option ((Sh.pair (.val .str) .unit).den×Sh.unit.den)
 | [.val .str s,.val .str c],[]=>if th c=true then some ((⟨(Lib.trimLeftS (s:Z0).data.toList (c:Z0).data.toList).toArray⟩,()),()) else none
 | _,_=>none
def xX:List SV→aE→Option ((Sh.pair (.val .str) .unit).den×Sh.unit.den)
 | [.val .str s,.val .str c],[]=>if th c=true∧(s:Z0).size≤9223372036854775807 then some ((⟨(Lib.trimS (s:Z0).data.toList (c:Z0).data.toList).toArray⟩,()),()) else none
 | _,_=>none
def BU:List SV→aE→Option ((Sh.pair (.val .str) (.pair (.val .str) (.pair (.val .bool) .unit))).den×Sh.unit.den)
 | [.val .str s,.val .str c],[]=>if(s:Z0).size < 4294967281 then some ((⟨(Lib.cut (s:Z0).data.toList (c:Z0).data.toList).1.toArray⟩,⟨(Lib.cut (s:Z0).data.toList (c:Z0).data.toList).2.1.toArray⟩,(Lib.cut (s:Z0).data.toList (c:Z0).data.toList).2.2,()),()) else none
 | _,_=>none
def qH:List SV→aE→Option ((Sh.pair (.val .str) .unit).den×Sh.unit.den)
 | [.val .str s,.val .str a,.val .str b],[]=>if(s:Z0).size < 4294967281∧1≤(a:Z0).size∧(s:Z0).size+Lib.countB s a*(b:Z0).size≤140737488355328 then some ((⟨(Lib.replaceAll (s:Z0).data.toList (a:Z0).data.toList (b:Z0).data.toList).toArray⟩,()),()) else none
 | _,_=>none
def xY (e:TypeId):List SV→aE→Option ((Sh.pair (.val .str) .unit).den×Sh.unit.den)
 | [.val t xs,.val .str c],[]=>(im? (t:=t) (.slice e .str) xs).bind fun xs=>if(xs:List Z0).length≤140737488355328∧(Lib.join ((xs:List Z0).map (·.data.toList)) (c:Z0).data.toList).length≤140737488355328 then some ((⟨(Lib.join ((xs:List Z0).map (·.data.toList)) (c:Z0).data.toList).toArray⟩,()),()) else none
 | _,_=>none
def cu (l:List UInt8):Int×Bool:=match Lib.parseIntB 64 l with
 | .ok v=>(v,true)
 | .range=>(Lib.intSat 64 l,false)
 | _=>(0,false)
def o0:List SV→aE→Option ((Sh.pair (.val (.int .i64)) (.pair (.val .err) .unit)).den×Sh.unit.den)
 | [.val .str s,.val (.int .i64) b,.val (.int .i64) n],[]=>if(s:Z0).size≤281474976710656∧(b:Int)=10∧(n:Int)=64 then some (((cu (s:Z0).data.toList).1,(cu (s:Z0).data.toList).2,()),()) else none
 | _,_=>none
open Go Go.RowKit
theorem Ev.uniq {R:Type} {f:Nat→Option R} {z z':R} (h:Ev f z) (h':Ev f z'):z=z':=by
 obtain⟨a,h⟩:=h
 obtain⟨b,h'⟩:=h'
 have h1:=h (a+b) (by omega)
 rw[h' (a+b) (by omega)] at h1
 exact(bl_ h1).symm
open Classical in
noncomputable def lim {R:Type} (f:Nat→Option R):Option R:=if h : ∃ z,Ev f z then some h.choose else none
theorem UW {R:Type} {f:Nat→Option R} {z:R}:lim f=some z↔Ev f z:=by
 unfold lim
 constructor
 ·intro h
  split at h
  ·rename_i hz
   have:=hz.choose_spec
   rw[bl_ h] at this
   exact this
  ·cases h
 ·intro h
  have hz : ∃ z,Ev f z:=⟨z,h⟩
  rw[dif_pos hz,hz.choose_spec.uniq h]
noncomputable def lk (E:cL):mZ:=fun I _ K c S σ=>lim fun k=>run E k I K c S σ
theorem uG {E:cL} {I:an} {R:Type} {K:St→Option R} {c:Code} {S:List Fr} {σ:St} {z:R}:lk E I K c S σ=some z ↔ ∃ k,∀ m,k≤m→run E m I K c S σ=some z:=UW
theorem OE {E:cL} {I:an} {R:Type} {K:St→Option R} {c:Code} {S:List Fr} {σ:St} {z:R} {k:Nat} (h:run E k I K c S σ=some z):lk E I K c S σ=some z :=
 uG.2 ⟨k,fun m hm=>Dx E hm (fun _ h=>h) h⟩
section
variable {E:cL} {call:(I:an)→List SV→aE→Option (I.sh.den×I.bx.den)} {call':Nat→(I:an)→List SV→aE→Option (I.sh.den×I.bx.den)}
theorem tj (hc : ∀ I args tab z,call I args tab=some z → ∃ k,∀ m,k≤m→call' m I args tab=some z) {g key:Nat} {args:List SV} {res:aE} {r0:Nat} {p:SV×Up} (h:gM E call g key args res r0 cK=some p) : ∃ k,∀ m,k≤m→gM E (call' m) g key args res r0 cK=some p:=by
 unfold gM at h ⊢
 cases hI:dp E.fns key with
 | none=>rw[hI] at h; cases h
 | some I =>
  simp only[hI] at h ⊢
  cases hg:cp_ I.g g with
  | false=>rw[hg] at h; cases h
  | true =>
   simp only[hg] at h ⊢
   cases hv:sW res (I.fn.params.toList.map fun T=>dp E.ty T) I.own args with
   | none=>rw[hv] at h; cases h
   | some q =>
    obtain⟨args',fr⟩:=q
    simp only[hv] at h ⊢
    split at h
    ·rename_i h1 h2 h3
     rw[ab_] at h
     obtain⟨z,hz,h⟩:=h
     obtain⟨k,hk⟩:=hc _ _ _ _ hz
     refine⟨k,fun m hm => ?_⟩
     rw[ab_]
     exact⟨z,hk m hm,h⟩
    ·cases h
theorem Nc (hc : ∀ I args tab z,call I args tab=some z → ∃ k,∀ m,k≤m→call' m I args tab=some z) {g:Nat} {args:List SV} {res:aE} {r0:Nat} {p:SV×Up} (h:jp E call g args res r0 cK=some p) : ∃ k,∀ m,k≤m→jp E (call' m) g args res r0 cK=some p:=by
 unfold jp at h ⊢
 split at h
 ·exact tj hc h
 ·rename_i s hs
  rw[ab_] at h
  obtain⟨b,hb,h⟩:=h
  split at h
  ·rename_i hb'
   obtain⟨k,hk⟩:=tj hc h
   refine⟨k,fun m hm => ?_⟩
   rw[ab_]
   refine⟨b,hb,?_⟩
   rw[Z3 hb']
   exact hk m hm
  ·rename_i hb'
   obtain⟨k,hk⟩:=tj hc h
   refine⟨k,fun m hm => ?_⟩
   rw[ab_]
   refine⟨b,hb,?_⟩
   rw[Z2 hb']
   exact hk m hm
theorem Sm (hc : ∀ I args tab z,call I args tab=some z → ∃ k,∀ m,k≤m→call' m I args tab=some z) {o:Oper} {vs:List SV} {res:aE} {r0:Nat} {p:SV×Up} (h:cM E call o vs res r0 cK=some p) : ∃ k,∀ m,k≤m→cM E (call' m) o vs res r0 cK=some p:=by
 obtain⟨dst,op,ty,pos,after,guard⟩:=o
 cases op
 case call c =>
  obtain⟨callee,args,argTypes⟩:=c
  cases callee with
  | value f =>
   rcases vs with _ | ⟨v1,vs⟩
   ·cases h
   ·cases v1 with
    | fn g caps =>
     rcases vs with _ | ⟨v2,_ | ⟨v3,vs⟩⟩ <;> exact Nc hc h
    | _=>rcases vs with _ | ⟨v2,_ | ⟨v3,vs⟩⟩ <;> cases h
  | _=>rcases vs with _ | ⟨v1,_ | ⟨v2,_ | ⟨v3,vs⟩⟩⟩ <;> exact⟨0,fun _ _=>h⟩
 case makeFunc fn first captured=>cases fn <;> rcases vs with _ | ⟨v1,_ | ⟨v2,_ | ⟨v3,vs⟩⟩⟩ <;> exact⟨0,fun _ _=>h⟩
 all_goals rcases vs with _ | ⟨v1,_ | ⟨v2,_ | ⟨v3,_ | ⟨v4,vs⟩⟩⟩⟩ <;> exact⟨0,fun _ _=>h⟩
def PS (E:cL) (call:(I:an)→List SV→aE→Option (I.sh.den×I.bx.den)) {R:Type} (all:Array Oper) (draw:Bool) (base i:Nat) (o:Oper) (l:List (Nat×Oper)) (g:List zW) (K:St→Option R) (σ:St) (b:Bool):Option R:=match b with
 | true=>cM E call o ((dV o.op).map (ev σ.slots)) (g5 σ.res (me o σ.res ((dV o.op).map (ev σ.slots)))) (base+64*i) fun v u=>match sY (base+64*i) (me o σ.res ((dV o.op).map (ev σ.slots))) u with
  | true=>cT E call all draw base l ({i,see:=me o σ.res ((dV o.op).map (ev σ.slots)),turn:=u.map (·.1)} :: g) (nV σ o.dst v u) K
  | false=>none
 | false=>cT E call all draw base l ({i,see:=[],turn:=[]} :: g) (nV σ o.dst (.tup []) []) K
theorem vC (hc : ∀ I args tab z,call I args tab=some z → ∃ k,∀ m,k≤m→call' m I args tab=some z) {R:Type} {K:St→Option R} {K':Nat→St→Option R} {z:R} (hK : ∀ σ,K σ=some z → ∃ k,∀ m,k≤m→K' m σ=some z) {all:Array Oper} {draw:Bool} {base:Nat} :
  ∀ {l:List (Nat×Oper)} {g:List zW} {σ:St},cT E call all draw base l g σ K=some z → ∃ k,∀ m,k≤m→cT E (call' m) all draw base l g σ (K' m)=some z
 | [],g,σ,h=>by
  unfold cT at h ⊢
  cases draw with
  | false=>exact hK σ h
  | true =>
   simp only at h ⊢
   split at h
   ·rename_i h1 h2
    exact hK σ h
   ·cases h
 | (i,o) :: l,g,σ,h=>by
  have act : ∀(σ:St) (b:Bool),PS E call all draw base i o l g K σ b=some z → ∃ k,∀ m,k≤m→PS E (call' m) all draw base i o l g (K' m) σ b=some z:=by
   unfold PS
   intro σ b h
   cases b with
   | true =>
    obtain⟨v,u,h1,h2⟩:=zX h
    obtain⟨k1,hk1⟩:=Sm hc h1
    split at h2
    ·rename_i hs
     obtain⟨k2,hk2⟩:=vC hc hK h2
     refine⟨k1+k2,fun m hm => ?_⟩
     rw[Kk,hk1 m (by omega)]
     simp only[Z1,hs]
     exact hk2 m (by omega)
    ·cases h2
   | false=>exact vC hc hK h
  unfold cT at h
  simp only[cT]
  dsimp only at h ⊢
  split at h
  ·exact act σ true h
  ·rename_i j want hg
   split at h
   ·rename_i d hd
    split at h
    ·split at h
     ·rename_i hx
      simp only[Z3 hx]
      exact act {σ with slots:=dA σ.slots d (.val .bool true)} (true == want) h
     ·rename_i hx
      simp only[Z2 hx]
      exact act {σ with slots:=dA σ.slots d (.val .bool false)} (false == want) h
    ·exact act σ false h
    ·cases h
   ·cases h
theorem HJ {rec:mZ} {rec':Nat→mZ} {I:an} {R:Type} {K:St→Option R} (hr : ∀(I:an) (R:Type) (K:St→Option R) c S σ z,rec I K c S σ=some z → ∃ k,∀ m,k≤m→rec' m I K c S σ=some z) {c:Code} {S:List Fr} {σ:St} {z:R} (h:gq E rec I K c S σ=some z) : ∃ k,∀ m,k≤m→gq E (rec' m) I K c S σ=some z:=by
 have ihp : ∀ {S:List Fr} {σ:St},sZ rec I K S σ=some z → ∃ k,∀ m,k≤m→sZ (rec' m) I K S σ=some z:=by
  intro S σ h
  cases S with
  | nil=>exact⟨0,fun _ _=>h⟩
  | cons f S=>cases f <;> exact hr _ _ _ _ _ _ _ h
 have ihc : ∀ I args tab z,fb E rec I args tab=some z → ∃ k,∀ m,k≤m→fb E (rec' m) I args tab=some z:=fun I args tab z h=>by
  unfold fb at h ⊢
  split at h
  ·exact⟨0,fun _ _=>h⟩
  ·exact hr _ _ _ _ _ _ _ h
 unfold gq at h ⊢
 split at h
 ·exact ihp h
 ·dsimp only at h ⊢
  exact vC ihc (K':=fun m σ'=>sZ (rec' m) I K S {σ' with nx:=_}) (fun σ' h'=>ihp h') h
 ·exact hr _ _ _ _ _ _ _ h
 ·split at h
  ·split at h
   ·rename_i hx
    simp only[Z3 hx]
    exact hr _ _ _ _ _ _ _ h
   ·rename_i hx
    simp only[Z2 hx]
    exact hr _ _ _ _ _ _ _ h
  ·cases h
 ·exact hr _ _ _ _ _ _ _ h
 ·exact hr _ _ _ _ _ _ _ h
 ·split at h
  ·exact hr _ _ _ _ _ _ _ h
  ·cases h
 ·exact⟨0,fun _ _=>h⟩
 ·cases h
end
theorem UX {E:cL} {I:an} {R:Type} {K:St→Option R} {c:Code} {S:List Fr} {σ:St}:lk E I K c S σ=gq E (lk E) I K c S σ:=by
 refine Option.ext fun z=>⟨fun h => ?_,fun h => ?_⟩
 ·obtain⟨k,hk⟩:=uG.1 h
  have h1:=hk (k+1) (by omega)
  rw[nX] at h1
  obtain⟨_,h2⟩:=HJ (rec':=fun _=>lk E) (fun _ _ _ _ _ _ _ h=>⟨0,fun _ _=>OE h⟩) h1
  exact h2 _ (ag_ _)
 ·obtain⟨k,hk⟩:=HJ (rec':=fun m=>run E m) (fun _ _ _ _ _ _ _ h=>uG.1 h) h
  exact OE (k:=k+1) (by rw[nX]; exact hk k (ag_ _))
def Sn (E:cL) (rc rec:mZ) (I:an) {R:Type} (K:St→Option R) (c:Code) (S:List Fr) (σ:St):Option R:=match c with
 | .region id ops draw=>cT {E with sub:=I.sub} (fb E rc) ops draw σ.nx ((bu_ ops.size).zip ops.toList) [] σ fun σ'=>sZ rec I K S {σ' with nx:=σ.nx+64*ops.size}
 | _=>none
theorem Wj : ∃ f:(E:cL)→(rc:mZ)→(I:an)→(R:Type)→(St→Option R)→Code→List Fr→St→Option R,∀ E rc I R K c S σ,f E rc I R K c S σ=Sn E rc rc I K c S σ :=
 ⟨fun E rc I R K c S σ=>Sn E rc rc I K c S σ,fun _ _ _ _ _ _ _ _=>rfl⟩
noncomputable def pt (E:cL) (rc:mZ) (I:an) {R:Type} (K:St→Option R) (c:Code) (S:List Fr) (σ:St):Option R:=Classical.choose Wj E rc I R K c S σ
theorem Wk {E:cL} {rc:mZ} {I:an} {R:Type} {K:St→Option R} {c:Code} {S:List Fr} {σ:St}:pt E rc I K c S σ=Sn E rc rc I K c S σ:=Classical.choose_spec Wj E rc I R K c S σ
noncomputable def JU (E:cL) (rc rec:mZ):mZ:=fun I _ K c S σ=>match c with
 | .skip=>sZ rec I K S σ
 | .region id ops draw=>match dp I.live id with
  | some l=>pt E rc I K (.region id ops draw) S (norm l σ)
  | none=>Sn E rc rec I K (.region id ops draw) S σ
 | .seq a b=>rec I K a (.seq b :: S) σ
 | .cond c a b=>match ev σ.slots c with
  | .val .bool x=>if x=true then rec I K a S σ else rec I K b S σ
  | _=>none
 | .block id b=>rec I K b (.block id :: S) σ
 | .loop b=>rec I K b (.loop b :: S) σ
 | .exit id=>match xN I id S with | some S'=>rec I K .skip S' σ | none=>none
 | .ret=>K σ
 | _=>none
noncomputable def JV (E:cL) (rc:mZ) (n:Nat):mZ:=Nat.rec rc (fun _ rec=>JU E rc rec) n
theorem UY {E:cL}:JU E (lk E) (lk E)=lk E:=by
 funext I R K c S σ
 rw[UX]
 unfold JU gq
 cases c <;> try rfl
 rename_i id ops draw
 dsimp only
 cases dp I.live id with
 | none=>rfl
 | some l=>exact Wk
theorem Dy {E:cL} : ∀ n,JV E (lk E) n=lk E
 | 0=>rfl
 | n+1=>by
  show JU E (lk E) (JV E (lk E) n)=_
  rw[Dy n,UY]
noncomputable def ai (E:cL) (I:an) (args:List SV) (tab:aE):Option (I.sh.den×I.bx.den):=fb E (lk E) I args tab
theorem av {E:cL} {I:an} {args:List SV} {tab:aE} {z:Option (I.sh.den×I.bx.den)} (h:fb E (JV E (lk E) 4000) I args tab=z:=by kernel_rfl):ai E I args tab=z:=by
 rw[←h,Dy]
 rfl
theorem bM {E:cL} {I:an} {R:Type} {K:St→Option R} {c:Code} {S:List Fr} {σ:St} {z:Option R} (h:Sn E (lk E) (JV E (lk E) 4000) I K c S σ=z:=by kernel_rfl):pt E (lk E) I K c S σ=z:=by
 rw[←h,Dy]
 exact Wk
theorem tg.ofL {E:cL} {I:an} {args:List SV} {tab:aE} {z:I.sh.den×I.bx.den} (h:ai E I args tab=some z):tg E I args tab z:=by
 unfold ai fb at h
 unfold tg call fb
 split at h
 ·exact⟨0,fun _ _=>h⟩
 ·exact uG.1 h
end Go.Proofs.YtipnjpfdlolhmaaGreatDoor.Abs
namespace Go.Proofs.YtipnjpfdlolhmaaGreatDoor.Abs
open Go
section
variable {α β:Type}
def ix (xs:List α) (i:Int) (d:α) (f:α→Option β):Option β:=if 0≤i then(if i < (xs.length:Int) then f (xs.getD i.toNat d) else none) else none
def inb (xs:List α) (i:Int) (k:Option β):Option β:=if 0≤i then(if i < (xs.length:Int) then k else none) else none
def ex (s:Z0) (i:Int) (f:Int→Option β):Option β:=if 0≤i then(if i < (s.size:Int) then f (bt s i) else none) else none
def HK (n:Int) (b:Nat) (d:α) (f:List α→Option β):Option β:=if 0≤n then(if n.toNat*b≤140737488355328 then f (az_ n.toNat d) else none) else none
def cats (a b:Z0) (f:Z0→Option β):Option β:=if a.size+b.size≤9223372036854775807 then f (a++b) else none
def app (a b:List α) (n:Nat) (f:List α→Option β):Option β:=if(a.length+b.length)*n≤140737488355328 then f (a++b) else none
def CF (s:Z0) (h:Int) (f:Z0→Option β):Option β:=if 0≤h then(if h≤(s.size:Int) then f (s.extract 0 h.toNat) else none) else none
def iJ (s:Z0) (l:Int) (f:Z0→Option β):Option β:=if 0≤l then(if l≤(s.size:Int) then f (s.extract l.toNat s.size) else none) else none
def uH (s:Z0) (l h:Int) (f:Z0→Option β):Option β:=if 0≤h then(if h≤(s.size:Int) then(if 0≤l then(if l≤h then f (s.extract l.toNat h.toNat) else none) else none) else none) else none
def OF (xs:List α) (h:Int) (f:List α→Option β):Option β:=if 0≤h then(if h≤(xs.length:Int) then f (xs.take h.toNat) else none) else none
def rB (d:α) (xs:List α) (i:Int) (f:α→α) (k:List α→β):β:=k (xs.set i.toNat (f (xs.getD i.toNat d)))
def nz (b:Int) (k:Option β):Option β:=if b=0 then none else k
end
def PT:Nat→Nat→List Nat→List Nat
 | 0,_,l=>l
 | k+1,n,l=>match Nat.ble n 1 with
  | true=>l
  | false=>PT k (n / 2) (n % 2 :: l)
def HL (c:Code) (l:List Nat) (S:List Fr):Code×List Fr:=match l with
 | []=>(c,S)
 | i :: l=>match c,i with
  | .seq a b,0=>HL a l (.seq b :: S)
  | .seq _ b,1=>HL b l S
  | .cond _ a _,0=>HL a l S
  | .cond _ _ b,1=>HL b l S
  | .block id b,0=>HL b l (.block id :: S)
  | .loop b,0=>HL b l (.loop b :: S)
  | _,_=>(.skip,[])
noncomputable abbrev bN (E:cL) (I:an) (tab:aE) (c:Code) (n:Nat) (σ:St):Option (I.sh.den×I.bx.den):=pt E (lk E) I (ft E I tab) (HL c (PT 200 n []) []).1 (HL c (PT 200 n []) []).2 σ
abbrev ah (x:Int):SV := .val (.int .i64) x
abbrev dw (x:Bool):SV := .val .bool x
abbrev aV (x:Z0):SV := .val .str x
abbrev aa:SV := .undef
abbrev am (g:Nat) (fn:Func) (sh bx:Sh) (own:List Bool) (live:List (Nat×List Nat)):an:={g,fn,sh,bx,own,live}
theorem wr {n:Int} (h0 : -9223372036854775808≤n) (h1:n≤9223372036854775807):IntKind.i64.wrap n=n:=by
 simp only[IntKind.wrap,IntKind.bits,IntKind.signed]
 simp
 omega
theorem toList_inj {a b:Z0} (h:a.toList=b.toList):a=b:=by
 rw[ByteArray.toList_eq,ByteArray.toList_eq] at h
 cases a
 cases b
 congr
 exact dm_.1 h
@[simp] theorem q6 {a b:Z0}:(Z6 a == Z6 b)=decide (a=b):=by
 by_cases h:a=b
 ·subst h
  simp
 ·rw[decide_eq_false h]
  have:Z6 a≠Z6 b:=fun e=>h (toList_inj e)
  simpa using this
def Wl (a b:Z0):Bool:=Op.bytesLess (Z6 a) (Z6 b)
theorem wD {α:Type} {l r:List α} {y d:α}:List.getD (l++y :: r) (Int.toNat (l.length:Int)) d=y:=by
 simp[List.getD_eq_getElem?_getD]
theorem X1 {α:Type} {l r:List α} {y z:α}:List.set (l++y :: r) (Int.toNat (l.length:Int)) z=l++z :: r:=by
 simp
theorem UZ {α:Type} {l:List α} {y:α}:((l.length:Nat):Int)+1=((l++[y]).length:Int):=by simp
theorem KM {α:Type} {l r:List α} {y:α}:((l.length:Nat):Int) < ((l++y :: r).length:Int):=by
 simp only[Z7,aa_]
 omega
theorem Wm {n:Nat} (h:n≤4398046511104):n*32≤140737488355328:=bf_ (Nat.mul_le_mul_right 32 h) (by decide)
theorem nn (n:Nat):(0:Int)≤(n:Int):=Int.natCast_nonneg n
theorem Ev.val {R:Type} {x z:R} (h:x=z):Ev (fun _=>some x) z:=h ▸ Ev.now
theorem vD {α:Type} [Inhabited α] {lt:α→α→Bool} (h:Sort.SWO lt) (xs:List α):(ew lt xs).Perm xs:=by
 have:=(Sort.pdq_sorts lt h xs.toArray 0 xs.toArray.size (ex_ xs.toArray.size) true true (de_ _) (ag_ _) (.inl rfl)).1
 obtain⟨h1,_,h2⟩:=this
 unfold ew
 have e1 : ∀(A:Array α) (n:Nat),A.size=n→(A.extract 0 n).toList=A.toList:=by
  rintro A n rfl
  simp
 rw[e1 _ _ h1,e1 _ _ rfl] at h2
 exact h2
theorem EM {α:Type} [Inhabited α] {lt:α→α→Bool} (h:Sort.SWO lt) (xs:List α):(ew lt xs).length=xs.length:=(vD h xs).length_eq
theorem zp {α:Type} [Inhabited α] {lt:α→α→Bool} (h:Sort.SWO lt) (xs:List α):(ew lt xs).Pairwise fun a b=>lt b a=false:=by
 have h0:=Sort.pdq_sorts lt h xs.toArray 0 xs.toArray.size (ex_ xs.toArray.size) true true (de_ _) (ag_ _) (.inl rfl)
 obtain⟨⟨h1,_⟩,h2⟩:=h0
 rw[List.pairwise_iff_getElem]
 intro i j hi hj hij
 unfold ew at hi hj ⊢
 have:=h2 i j (de_ _) hij (by rw[←h1]; simpa using hj)
 rw[getElem!_pos _ i (by simpa using hi),getElem!_pos _ j (by simpa using hj)] at this
 simpa using this
theorem vF {α:Type} {lt:α→α→Bool} : ∀ {l m:List α},l.Perm m→(l.Pairwise fun a b=>lt b a=false)→(m.Pairwise fun a b=>lt a b=true)→l=m
 | [],m,hp,_,_=>(List.nil_perm.1 hp).symm
 | x :: l,m,hp,hl,hm=>by
  obtain⟨m1,m2,rfl⟩:=List.append_of_mem (hp.subset (List.mem_cons_self (a:=x)))
  have hp':l.Perm (m1++m2):=(List.perm_cons x).1 (hp.trans List.perm_middle)
  cases m1 with
  | nil =>
   have:=vF hp' (bs_.1 hl).2 (bs_.1 hm).2
   rw[this]
   rfl
  | cons y m1 =>
   have h1:lt y x=true:=(bs_.1 hm).1 x (by simp)
   have h2:lt y x=false:=(bs_.1 hl).1 y (hp'.symm.subset (by simp))
   rw[h1] at h2
   cases h2
open Go Go.RowKit Go.ChangeShapes Go.WideShapes
def Am:(t:Ty)→t.den→Prop
 | .int k,n=>(Lit.int k n).wf=true
 | .bool,_=>True
 | .err,_=>True
 | .fn,_=>True
 | .pt,_=>True
 | .bp _,_=>True
 | .str,s=>(s:Z0).size≤maxLen
 | .unit,_=>True
 | .pair a b,x=>Am a x.1∧Am b x.2
 | .agg t,x=>Am t x
 | .slice _ t,xs=>(xs:List t.den).length≤maxLen ∧ ∀ x∈(xs:List t.den),Am t x
def EN (P:Program) (g:TypeId→Ty→Bool):List Field→Ty→Nat→Bool
 | [],.unit,_=>true
 | f :: fs,.pair a b,o=>cp_ f.offset o && cp_ (P.cellsOf f.type) a.sz && g f.type a && EN P g fs b (o+a.sz)
 | _,_,_=>false
def gR (P:Program):Nat→TypeId→Ty→Bool
 | 0,_,_=>false
 | _+1,T,.int k=>match P.underlying T with | some (.int k')=>decide (k'=k) | _=>false
 | _+1,T,.bool=>match P.underlying T with | some .bool=>true | _=>false
 | _+1,T,.str=>match P.underlying T with | some .string=>true | _=>false
 | d+1,T,.slice e t=>match P.underlying T with | some (.slice e')=>cp_ e' e && cp_ (P.cellsOf e) t.sz && Nat.blt 0 t.sz && gR P d e t | _=>false
 | d+1,T,.agg t=>match P.underlying T with
  | some (.struct fs)=>cp_ (P.cellsOf T) t.sz && EN P (gR P d) fs.toList t 0
  | _=>false
 | _,_,_=>false
theorem HM {α:Type} {Q:Nat→α→Prop} : ∀(n:Nat),(∀ i,i < n → ∃ y,Q i y) → ∃ ys:List α,ys.length=n ∧ ∀ i (h:i < ys.length),Q i ys[i]
 | 0,_=>⟨[],rfl,fun i h=>by simp at h⟩
 | n+1,h=>by
  obtain⟨ys,h1,h2⟩:=HM n (fun i hi=>h i (by omega))
  obtain⟨y,hy⟩:=h n (by omega)
  refine⟨ys++[y],by simp[h1],fun i hi => ?_⟩
  by_cases hin:i < ys.length
  ·rw[List.getElem_append_left hin]
   exact h2 i hin
  ·rw[Z7,List.length_singleton] at hi
   have:i=n:=by omega
   subst this
   rw[List.getElem_append_right (by omega)]
   simpa[h1] using hy
section
variable {H:Type} {enc:TypeId×Value→H} {P:Program} {w:World} {base:Nat} {sp:Nat→Bool} {held:Bool}
theorem KN {g:TypeId→Ty→Bool} {n:Nat} (hg : ∀ T t,g T t=true → ∀ cs x,DataW.trod enc P w base sp held n T cs=some x → ∃ y:t.den,RK (CA w) t y cs∧Am t y) :
  ∀ {fs:List Field} {t:Ty} {o:Nat} {cs:List Value},EN P g fs t o=true→cs.length=o+t.sz→(∀ f∈fs,∃ x,DataW.trod enc P w base sp held n f.type ((cs.drop f.offset).take (P.cellsOf f.type))=some x) → ∃ y:t.den,RK (CA w) t y (cs.drop o)∧Am t y
 | [],.unit,o,cs,_,hl,_=>⟨(),by
   show cs.drop o=[]
   exact List.drop_eq_nil_of_le (by rw[hl]; exact ag_ _),trivial⟩
 | f :: fs,.pair a b,o,cs,h,hl,hf=>by
  simp only[EN,Z8] at h
  obtain⟨⟨⟨h1,h2⟩,h3⟩,h4⟩:=h
  have h1:=be_ h1
  have h2:=be_ h2
  obtain⟨x,hx⟩:=hf f (by simp)
  rw[h1,h2] at hx
  obtain⟨y1,k1,m1⟩:=hg f.type a h3 _ _ hx
  have hl':cs.length=o+a.sz+b.sz:=by
   rw[hl,dc_]
   rfl
  obtain⟨y2,k2,m2⟩:=KN hg (fs:=fs) (t:=b) (o:=o+a.sz) (cs:=cs) h4 hl' (fun f hf'=>hf f (af_ _ hf'))
  refine⟨(y1,y2),⟨(cs.drop o).take a.sz,cs.drop (o+a.sz),?_,k1,k2⟩,m1,m2⟩
  rw[←List.drop_drop,List.take_append_drop]
 | [],.int _,_,_,h,_,_=>by cases h
 | [],.bool,_,_,h,_,_=>by cases h
 | [],.err,_,_,h,_,_=>by cases h
 | [],.fn,_,_,h,_,_=>by cases h
 | [],.pt,_,_,h,_,_=>by cases h
 | [],.bp _,_,_,h,_,_=>by cases h
 | [],.str,_,_,h,_,_=>by cases h
 | [],.pair _ _,_,_,h,_,_=>by cases h
 | [],.agg _,_,_,h,_,_=>by cases h
 | [],.slice _ _,_,_,h,_,_=>by cases h
 | _ :: _,.int _,_,_,h,_,_=>by cases h
 | _ :: _,.bool,_,_,h,_,_=>by cases h
 | _ :: _,.err,_,_,h,_,_=>by cases h
 | _ :: _,.fn,_,_,h,_,_=>by cases h
 | _ :: _,.pt,_,_,h,_,_=>by cases h
 | _ :: _,.bp _,_,_,h,_,_=>by cases h
 | _ :: _,.str,_,_,h,_,_=>by cases h
 | _ :: _,.unit,_,_,h,_,_=>by cases h
 | _ :: _,.agg _,_,_,h,_,_=>by cases h
 | _ :: _,.slice _ _,_,_,h,_,_=>by cases h
theorem GF : ∀(d:Nat) (T:TypeId) (t:Ty),gR P d T t=true → ∀(fuel:Nat) (cs:List Value) (x:DataW H×List MemPlace),DataW.trod enc P w base sp held fuel T cs=some x → ∃ y:t.den,RK (CA w) t y cs∧Am t y
 | 0,_,_,h,_,_,_,_=>by simp[gR] at h
 | d+1,T,.int k,h,fuel,cs,x,hx=>by
  unfold gR at h
  split at h
  ·rename_i k' hu
   have:=do_ h
   subst this
   obtain⟨n,rfl,_,hw⟩:=DataW.trod_int hu hx
   exact⟨n,rfl,hw⟩
  ·cases h
 | d+1,T,.bool,h,fuel,cs,x,hx=>by
  unfold gR at h
  split at h
  ·rename_i hu
   obtain⟨b,rfl,_⟩:=DataW.trod_bool hu hx
   exact⟨b,rfl,trivial⟩
  ·cases h
 | d+1,T,.str,h,fuel,cs,x,hx=>by
  unfold gR at h
  split at h
  ·rename_i hu
   obtain⟨s,rfl,_,hw⟩:=DataW.trod_string hu hx
   exact⟨s,rfl,hw⟩
  ·cases h
 | d+1,T,.slice e t,h,fuel,cs,x,hx=>by
  unfold gR at h
  split at h
  ·rename_i e' hu
   simp only[Z8] at h
   obtain⟨⟨⟨h1,h2⟩,h3⟩,h4⟩:=h
   have h1:=be_ h1
   subst h1
   have h2:=be_ h2
   have h3:0 < t.sz:=by simpa[Nat.blt_eq] using h3
   rcases DataW.trod_slice hu hx with⟨rfl,_⟩ | ⟨a,len,cap,elems,rest,n,rfl,rfl,rfl,hb,hle,hmax,hlen,hel,_⟩
   ·exact⟨([]:List t.den),⟨none,0,rfl,ag_ _,fun h=>ay_ rfl h⟩,de_ _,fun x hx=>by cases hx⟩
   ·have each : ∀ i,i < len → ∃ y:t.den,Am t y ∧ ∃ c,RK (CA w) t y c∧c.length=t.sz ∧ ∀ j,j < t.sz→w.cell? ((a.add (i*t.sz)).add j)=c[j]? := by
     intro i hi
     have h5:=hel i hi
     rw[ah_ (by omega),ab_,h2] at h5
     obtain⟨c,h6,h7⟩:=h5
     obtain⟨_,h8,h9⟩:=World.cells?_some h6
     obtain⟨y,h10,h11⟩:=GF d e' t h4 _ _ _ h7
     exact⟨y,h11,c,h10,h8,h9⟩
    obtain⟨ys,hyl,hy⟩:=HM len each
    have hyl':len=ys.length:=hyl.symm
    subst hyl'
    refine⟨ys,⟨some a,cap,rfl,hle,fun hne => ?_⟩,bf_ hle hmax,fun y hyy => ?_⟩
    ·have hpos:0 < ys.length:=by
      cases ys with
      | nil=>exact ay_ rfl hne
      | cons _ _=>simp
     obtain⟨_,c0,_,hcl,hcc⟩:=hy 0 hpos
     have hsp:a.spot=none:=by
      have:=hcc 0 h3
      rw[ah_ (by omega)] at this
      unfold World.cell? at this
      split at this
      ·cases hs:a.spot with
       | none=>rfl
       | some z =>
        simp[Addr.add,hs] at this
      ·cases this
     obtain⟨b,o,s⟩:=a
     simp only at hsp
     subst hsp
     refine⟨b,o,rfl,fun i hi => ?_⟩
     obtain⟨_,c,k1,k2,k3⟩:=hy i hi
     refine⟨c,k1,fun j v hj=>⟨trivial,?_⟩⟩
     have hjl:j < t.sz:=by
      rw[←k2]
      exact(ar_.1 hj).1
     have:=k3 j hjl
     rw[hj,gP,gP] at this
     exact this
    ·obtain⟨i,hi,he⟩:=db_ hyy
     rw[←he]
     exact(hy i hi).1
  ·cases h
 | d+1,T,.agg t,h,fuel,cs,x,hx=>by
  unfold gR at h
  split at h
  ·rename_i fs hu
   simp only[Z8] at h
   have h1:=be_ h.1
   obtain⟨xs,n,rfl,rfl,hl,hxl,hf⟩:=DataW.trod_struct hu hx
   have:=KN (g:=gR P d) (n:=n) (fun T t hT cs x hx=>GF d T t hT n cs x hx) (cs:=cs) h.2 (by rw[hl,h1,cl_]) (fun f hfm=>by
    obtain⟨i,hi,he⟩:=db_ hfm
    have hi':i < fs.size:=by simpa using hi
    have:=hf i f (by rw[cm_ hi']; simpa using he)
    rw[ah_ (by omega)] at this
    exact⟨_,this⟩)
   obtain⟨y,h3,h4⟩:=this
   exact⟨y,h3,h4⟩
  ·cases h
 | d+1,T,.unit,h,_,_,_,_=>by simp[gR] at h
 | d+1,T,.err,h,_,_,_,_=>by simp[gR] at h
 | d+1,T,.fn,h,_,_,_,_=>by simp[gR] at h
 | d+1,T,.pt,h,_,_,_,_=>by simp[gR] at h
 | d+1,T,.bp _,h,_,_,_,_=>by simp[gR] at h
 | d+1,T,.pair _ _,h,_,_,_,_=>by simp[gR] at h
theorem U0 {d:Nat} {T:TypeId} {t:Ty} (h:gR P d T t=true) {r:Reach} {v:Value} (hv:Value.okWide P w r base T v):v=mk t v.cells.toList:=by
 cases d with
 | zero=>simp[gR] at h
 | succ d =>
  unfold gR at h
  cases t with
  | int k =>
   simp only at h
   split at h
   ·rename_i hu
    obtain⟨n,rfl⟩:=okWide_int hu hv
    rfl
   ·cases h
  | bool =>
   simp only at h
   split at h
   ·rename_i hu
    obtain⟨b,rfl⟩:=okWide_bool hu hv
    rfl
   ·cases h
  | str =>
   simp only at h
   split at h
   ·rename_i hu
    obtain⟨s,rfl⟩:=okWide_string hu hv
    rfl
   ·cases h
  | slice e t =>
   simp only at h
   split at h
   ·rename_i hu
    obtain⟨a,l,c,rfl⟩:=okWide_slice hu hv
    rfl
   ·cases h
  | agg t =>
   simp only at h
   split at h
   ·rename_i hu
    obtain⟨cs,rfl,_⟩:=okWide_struct hu hv
    show Value.agg cs = .agg cs.toList.toArray
    simp
   ·cases h
  | unit=>simp at h
  | err=>simp at h
  | fn=>simp at h
  | pt=>simp at h
  | bp _=>simp at h
  | pair a b=>simp at h
theorem X2 {d:Nat} {T:TypeId} {t:Ty} (h:gR P d T t=true) {r:Reach} {v:Value} {x:DataW H} {ps:List MemPlace} (hv:Value.okWide P w r base T v) (hx:DataW.Trod enc P w 0 sp held T v x ps) : ∃ y:t.den,Am t y∧v=mk t v.cells.toList∧RK (CA w) t y v.cells.toList:=by
 obtain⟨fuel,hx⟩:=hx
 obtain⟨y,h1,h2⟩:=GF d T t h fuel _ _ hx
 exact⟨y,h2,U0 h hv,h1⟩
end
abbrev EO (w:World) (b o:Nat):Prop := ∃ v,w.cell? ⟨b,o,none⟩=some v
theorem So {w:World} {args:List SV} {us:List Value} (h:cC (Ln (EO w) w) (fun _=>none) args us):bq w (mQ [] fun _=>none) (EO w) args (aC []) (fun _=>none) (EO w) {tmps:=us.toArray,defers:=[]} w:=by
 refine⟨h,rfl,(fun r e t v h=>by cases h),(fun r b t h=>by cases h),(fun r x h=>by cases h),(fun r r' x x' b h=>by cases h),(fun r x b h=>by cases h),(fun r x b h=>by cases h),fun _ _ _=>rfl,ag_ _,rfl,rfl,rfl,?_,fun _ _ _ _ h=>h,fun _ _ _ h=>h⟩
 rintro b o ⟨v,hv⟩
 unfold World.cell? at hv
 split at hv
 ·rename_i h
  exact(br_.1 h).1
 ·cases hv
theorem X3 {w:World} {t:Ty} {y:t.den} {v:Value} (h1:v=mk t v.cells.toList) (h2:RK (CA w) t y v.cells.toList):RV (Ln (EO w) w) (fun _=>none) (.val t y) v:=by
 rw[h1]
 exact .val (gN (fun b o v h=>⟨⟨v,h.2⟩,h.2⟩) h2)
theorem Sp {P:Program} {E:cL} {Gp:WP} (hst:EA Gp) (hm:P.follows .mixedOrders=true) (hE:fP P E) (hP:wB Gp P E) {I:an} {key:Nat} (hg:dp E.fns key=some I) {args:List SV} {z:I.sh.den×I.bx.den} (h:tg E I args [] z)
  (h1:bV I.sh z.1 0=([.val .bool true],[],0)) (h2:bV I.bx z.2 0=([],[],0)) (h3:cJ I.rb [] [] (qB I.bx)=some []) {w:World} {us:List Value} (hGp:Gp w (mQ [] fun _=>none)) (hu:cC (Ln (EO w) w) (fun _=>none) args us) :
  Calls P I.g us.toArray w fun e w'=>e = .returned (.bool true)∧Below w.heap.size w w':=by
 have:=h.calls hst hm hE hP hg (fun k p hp=>by simp at hp) hGp (So hu) (fun _ _=>rfl) (N:=0) (de_ _) h1 h2 h3
 refine this.mono ?_
 rintro e w' ⟨vals,γr,Pr',rfl,hB,_⟩
 have hv:=hB.vals
 cases hv with
 | cons hv hk =>
  cases hk
  have:=iH hv
  subst this
  refine⟨rfl,hB.os,hB.tape,hB.output,hB.size,fun k hk=>hB.frame k hk ?_⟩
  rintro⟨j,x,hj,_⟩
  cases hj
end Go.Proofs.YtipnjpfdlolhmaaGreatDoor.Abs
namespace Go.Proofs.YtipnjpfdlolhmaaGreatDoor.Abs
open Go Go.RowKit
def ga:(t:Ty)→t.den→List Value
 | .int k,n=>[.int k n]
 | .bool,b=>[.bool b]
 | .err,_=>[]
 | .fn,_=>[]
 | .pt,_=>[]
 | .bp _,_=>[]
 | .str,s=>[.string s]
 | .unit,_=>[]
 | .pair a b,x=>ga a x.1++ga b x.2
 | .agg t,x=>ga t x
 | .slice _ _,_=>[]
theorem o6 {L:Lk} : ∀ {t:Ty} {x:t.den} {cs:List Value},di t=true→(RK L t x cs↔cs=ga t x)
 | .int k,n,cs,_=>Iff.rfl
 | .bool,b,cs,_=>Iff.rfl
 | .err,_,_,hn=>by cases hn
 | .fn,_,_,hn=>by cases hn
 | .pt,_,_,hn=>by cases hn
 | .bp _,_,_,hn=>by cases hn
 | .str,s,cs,_=>Iff.rfl
 | .unit,_,cs,_=>Iff.rfl
 | .pair a b,x,cs,hn=>by
  simp only[di,Z8] at hn
  constructor
  ·rintro⟨c,d,rfl,h1,h2⟩
   rw[(o6 hn.1).1 h1,(o6 hn.2).1 h2]
   rfl
  ·rintro rfl
   exact⟨_,_,rfl,(o6 hn.1).2 rfl,(o6 hn.2).2 rfl⟩
 | .agg t,x,cs,hn=>o6 (t:=t) hn
 | .slice _ _,_,_,hn=>by cases hn
theorem BV {t:Ty} (hn:di t=true) (x:t.den):(ga t x).length=t.sz:=eu (L:=fun _ _ _=>True) ((o6 hn).2 rfl)
theorem OG {t:Ty} (hn:di t=true) (x:t.den) : ∀ v∈ga t x,v.oneCell'=true:=ne (L:=fun _ _ _=>True) ((o6 hn).2 rfl)
theorem OH {L:Lk} {t:Ty} (hn:di t=true) {xs:List t.den} {css:List (List Value)}:ki L t xs css↔css=xs.map (ga t):=by
 constructor
 ·rintro⟨h1,h2⟩
  apply List.ext_getElem (by simp[h1])
  intro i h3 h4
  rw[List.getElem_map]
  exact(o6 hn).1 (h2 i (by omega) h3)
 ·rintro rfl
  refine⟨by simp,fun i h h' => ?_⟩
  rw[List.getElem_map]
  exact(o6 hn).2 rfl
theorem ZG {w:World} {base:Nat} {e:TypeId} {size:Nat} {v:Value} {n:Nat} {xs:List Value} (h:w.ownsRow base e size v n xs):w.ownsRow 0 e size v n xs:=by
 refine⟨h.1,?_⟩
 rcases h.2 with h2 | ⟨g,cap,cur,h3,_,h4⟩
 ·exact .inl h2
 ·exact .inr ⟨g,cap,cur,h3,de_ _,h4⟩
end Go.Proofs.YtipnjpfdlolhmaaGreatDoor.Abs
namespace Go.Proofs.YtipnjpfdlolhmaaGreatDoor.Abs
open Go Go.RowKit
def PU:(s:Sh)→s.den→List Value→Prop
 | .pair (.val t) b,x,us => ∃ cs us',us=mk t cs :: us'∧RK (fun _ _ _=>False) t x.1 cs∧PU b x.2 us'
 | .unit,_,us=>us=[]
 | _,_,_=>False
theorem CG {γ:Nat→Option G} : ∀ {s:Sh} {x:s.den} {us:List Value} (n:Nat),PU s x us → ∃ vs,bV s x n=(vs,[],n)∧cC (fun _ _ _=>False) γ vs us
 | .pair (.val t) b,x,us,n,h=>by
  obtain⟨cs,us',rfl,hk,h⟩:=h
  obtain⟨vs,h1,h2⟩:=CG (γ:=γ) (s:=b) (x:=x.2) n h
  refine⟨.val t x.1 :: vs,?_,.cons (.val hk) h2⟩
  show(let (v,u,m):=aG (.val t) x.1 n; let (l,u',m'):=aG.go b x.2 m; (v :: l,u++u',m'))=_
  have h1:aG.go b x.2 n=(vs,[],n):=h1
  simp only[aG,h1,bz_]
 | .unit,x,us,n,h=>⟨[],rfl,by rw[show us=[] from h]; exact .nil⟩
 | .val _,_,_,_,h=>h.elim
 | .row _ _ _,_,_,_,h=>h.elim
 | .strct _,_,_,_,h=>h.elim
 | .ptr _,_,_,_,h=>h.elim
 | .pair .unit _,_,_,_,h=>h.elim
 | .pair (.row _ _ _) _,_,_,_,h=>h.elim
 | .pair (.pair _ _) _,_,_,_,h=>h.elim
 | .pair (.strct _) _,_,_,_,h=>h.elim
 | .pair (.ptr _) _,_,_,_,h=>h.elim
theorem kz {Gp:WP} {P:Program} {g:Nat} {fn:Func} {sh:Sh} {own:List Bool} {live:List (Nat×List Nat)} {pr:Option (List SV→aE→Option (sh.den×Sh.unit.den))} {args:List SV} {z:sh.den×Sh.unit.den} (hz : ∀ n,(bV sh z.1 n).2=([],n))
  (hcall : ∀(w:World) (Pr:Nat→Nat→Prop) (γ:Nat→Option G) (us:List Value),Gp w (fun _=>False)→(∀ b o,Pr b o→b < w.heap.size)→cC (Ln Pr w) γ args us→Calls P g us.toArray w fun e w' => ∃ us',e = .returned (Af us')∧PU sh z.1 us'∧Below w.heap.size w w') (hst : ∀ w X,Gp w X→Gp w fun _=>False) :
  ed Gp P {g:=g,fn:=fn,sh:=sh,bx := .unit,own:=own,live:=live,prim:=pr} args [] z:=by
 intro hcanon w γ Pr us hG hI hlim N hN vs u n bs u' n' ub hm1 hm2 hub
 have hu:=hz N
 rw[show bV sh z.1 N=(vs,u,n) from hm1] at hu
 obtain⟨rfl,rfl⟩:=Prod.mk.inj hu
 cases hm2
 cases hub
 refine(hcall w _ γ us (hst _ _ hG) hI.prIn hI.slots).mono ?_
 rintro e w' ⟨us',rfl,hf,hB⟩
 obtain⟨vs',hv1,hv2⟩:=CG (γ:=fun _=>none) n hf
 rw[show bV sh z.1 n=(vs,[],n) from hm1] at hv1
 cases hv1
 refine⟨_,fun _=>none,Pr,rfl,⟨g6 (fun _ _ _ h=>h.elim) (fun _ _ h=>h) hv2,?_,?_,?_,?_,?_,?_,?_,?_,?_,hB.size,hB.os,hB.tape,hB.output,?_,?_,?_⟩,?_⟩
 ·intro r g h; cases h
 ·intro j t c h; simp at h
 ·intro r x h; cases h
 ·intro r r' x x' b h; cases h
 ·intro j t c b h; simp at h
 ·intro j t c b h; simp at h
 ·intro r x b h; cases h
 ·intro r x b h; cases h
 ·exact fun k hk _=>hB.block k hk
 ·exact fun b o ho=>cj_ (hI.prIn b o ho) hB.size
 ·exact fun b hb hx o ho=>ho
 ·intro b o v hv
  refine⟨hv.1,?_⟩
  rw[World.cell?_of_block (hB.block b (hI.prIn b o hv.1))]
  exact hv.2
 ·intro p hp
  cases hp
abbrev iK:=String×(Array Value→Prop)
def gx (P:Program) (l:List iK):WP:=fun w X => ∀ p∈l,(∃ a,w.var? P p.1=some a∧p.2 a) ∧ ∀ g,P.globalNamed p.1=some g → ¬X g
theorem gx.stable {P:Program} {l:List iK}:EA (gx P l):=by
 intro w0 X w X' h k p hp
 obtain⟨⟨a,h1,h0⟩,h2⟩:=h p hp
 unfold World.var? at h1 ⊢
 cases hg:P.globalNamed p.1 with
 | none=>rw[hg] at h1; cases h1
 | some g =>
  rw[hg] at h1
  simp only[Z1] at h1 ⊢
  have hlt:g < w0.heap.size:=by
   rcases Nat.lt_or_ge g w0.heap.size with h | h
   ·exact h
   ·rw[ek_ h] at h1
    cases h1
  obtain⟨_,k2,k3⟩:=k g hlt (h2 g hg)
  rw[k3]
  exact⟨⟨a,h1,h0⟩,fun g' hg'=>by cases hg'; exact k2⟩
theorem gx.none {P:Program} {l:List iK} {w:World} {X:Nat→Prop} (h:gx P l w X):gx P l w fun _=>False :=
 fun p hp=>⟨(h p hp).1,fun _ _ h=>h⟩
theorem KO {c:Z0} (h:th c=true):c.size < 4294967281 ∧ ∀(j:Nat) b,c.data.toList[j]? = some b→b.toNat < 128:=by
 unfold th at h
 simp only[Z8,Z9,cc_] at h
 exact⟨by omega,fun j b hj=>h.2 b (bq_ hj)⟩
def wE (n:String):iK:=(n,fun a => ∃ m,a[0]? = some (.int .i64 m))
def EP (n:String):iK:=(n,fun a => ∃ tp p,a = #[.iface tp p])
theorem CH {P:Program} {l:List iK} {w:World} {n:String} {g:Nat} (h:gx P l w fun _=>False) (hm:wE n∈l) (hg:P.globalNamed n=some g) : ∃ m,w.cell? ⟨g,0,Option.none⟩=some (.int .i64 m):=by
 obtain⟨⟨a,h1,m,h2⟩,_⟩:=h _ hm
 refine⟨m,?_⟩
 have:=World.var?_cell hg h1 0
 rw[this]
 exact h2
theorem Sq {P:Program} {w:World} {n:String} {g:Nat} (hg:P.globalNamed n=some g) (h : ∃ m,w.cell? ⟨g,0,Option.none⟩=some (.int .i64 m)) : ∃ a,w.var? P (wE n).1=some a∧(wE n).2 a:=by
 obtain⟨m,h⟩:=h
 unfold World.cell? at h
 split at h
 ·rename_i c t z hc
  refine⟨c,?_,m,h⟩
  show World.var? P w n=some c
  unfold World.var?
  rw[hg]
  simp only[Z1,hc]
 ·cases h
end Go.Proofs.YtipnjpfdlolhmaaGreatDoor.Abs
