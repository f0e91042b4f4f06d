/- Regions whose operations may stand in other orders. -/
import Derived.Test.YtnodjiikdgmeaaaGreatDoorZA2
import Derived.LoopN
import Derived.Sort.AssemblyPlain
import Derived.Lib.BitFns
import Derived.Lib.ItoaNum
import Derived.Lib.SlTrimSet
import Derived.Lib.IndexMore
import Derived.Lib.Split
import Derived.Lib.Replace
import Derived.Lib.Join
import Derived.Lib.ParseIntB
import Derived.Lib.Strings
import Derived.Sort.Walk0
import Derived.ChangeArms
import Derived.DataReads
import Derived.WideShapes
import Derived.Carry
import Derived.OpenShut
import Derived.LaidLaws
import Derived.LaidHandle
import Derived.LaidMore
import Derived.Lib.LaidTab
import Derived.Below
set_option linter.unusedVariables false
set_option linter.unusedSimpArgs false
set_option linter.unusedSectionVars false
namespace Go.Proofs.YtnodjiikdgmeaaaGreatDoor.Abs
open Go Go.RowKit
theorem Xg {s:Nat} {e:Nat} {b:Nat} {a:Nat}:(s ||| 2 ^ e ||| b).testBit a=(s.testBit a || decide (e=a) || b.testBit a):=by
 simp[Nat.testBit_or,Nat.testBit_two_pow]
theorem I7 (g:Nat→Nat) (a:Nat) : ∀(l:List Edge) (s:Nat),(l.foldl (fun s e=>if Region.binds .any e then s ||| 2 ^ e.on ||| g e.on else s) s).testBit a=true→s.testBit a=true ∨ ∃ e∈l,Region.binds .any e=true∧(e.on=a∨(g e.on).testBit a=true)
 | [],s,h => .inl h
 | e :: l,s,h=>by
  rw[List.foldl_cons] at h
  rcases I7 g a l _ h with h | ⟨e',h1,h2⟩
  ·split at h
   ·rename_i hb
    rw[Xg] at h
    simp only[Bool.or_eq_true,decide_eq_true_eq] at h
    rcases h with(h | h) | h
    ·exact .inl h
    ·exact .inr ⟨e,by simp,hb,.inl h⟩
    ·exact .inr ⟨e,by simp,hb,.inr h⟩
   ·exact .inl h
  ·exact .inr ⟨e',List.mem_cons_of_mem _ h1,h2⟩
def F7 (acc:Array Nat) (o:Oper):Nat:=o.after.foldl (fun s e=>if Region.binds .any e then s ||| 2 ^ e.on ||| acc.getD e.on 0 else s) 0
theorem DZ : ∀(l:List Oper) (acc:Array Nat),let r:=l.foldl (fun acc o=>acc.push (F7 acc o)) acc
  r.size=acc.size+l.length∧(∀ k,k < acc.size→r[k]? = acc[k]?) ∧ ∀ k o,l[k]? = some o → ∃ acc',(∀ j,j < acc.size+k→acc'[j]? = r[j]?)∧acc'.size=acc.size+k∧r[acc.size+k]? = some (F7 acc' o)
 | [],acc=>⟨by simp,fun k _=>rfl,fun k o h=>by simp at h⟩
 | o :: l,acc=>by
  obtain⟨h1,h2,h3⟩:=DZ l (acc.push (F7 acc o))
  refine⟨by simp only[List.foldl_cons,h1,Array.size_push,List.length_cons]; omega,fun k hk => ?_,fun k o' hk => ?_⟩
  ·rw[List.foldl_cons,h2 k (by rw[Array.size_push]; omega),Array.getElem?_push_lt hk,Array.getElem?_eq_getElem hk]
  ·rw[List.foldl_cons]
   cases k with
   | zero =>
    simp at hk
    subst hk
    refine⟨acc,fun j hj => ?_,rfl,?_⟩
    ·rw[h2 j (by rw[Array.size_push]; omega),Array.getElem?_push_lt (by omega),Array.getElem?_eq_getElem (by omega)]
    ·rw[h2 (acc.size+0) (by rw[Array.size_push]; omega)]
     simp
   | succ k =>
    obtain⟨acc',h4,h5,h6⟩:=h3 k o' (by simpa using hk)
    rw[Array.size_push] at h4 h5 h6
    refine⟨acc',fun j hj=>h4 j (by omega),by omega,?_⟩
    rw[show acc.size+(k+1)=acc.size+1+k by omega]
    exact h6
theorem S1 {all:Array Oper} {a b:Nat} (h:((Region.before all).getD b 0).testBit a=true) : ∃ o,all[b]? = some o ∧ ∃ e∈o.after,Region.binds .any e=true∧(e.on=a∨(e.on < b∧((Region.before all).getD e.on 0).testBit a=true)):=by
 have hb:Region.before all=all.toList.foldl (fun acc o=>acc.push (F7 acc o)) #[]:=by
  unfold Region.before
  rw[←Array.foldl_toList]
  rfl
 obtain⟨h1,_,h3⟩:=DZ all.toList #[]
 rw[←hb] at h1 h3
 have hlt:b < all.size:=by
  rcases Nat.lt_or_ge b all.size with h' | h'
  ·exact h'
  ·have:(Region.before all)[b]? = none:=Array.getElem?_eq_none (by rw[h1]; simpa using h')
   rw[Array.getD_eq_getD_getElem?,this] at h
   simp at h
 obtain⟨acc',h4,h5,h6⟩:=h3 b all[b] (by rw[Array.getElem?_toList]; exact Array.getElem?_eq_getElem hlt)
 simp only[Array.size_empty,Nat.zero_add] at h4 h5 h6
 refine⟨all[b],Array.getElem?_eq_getElem hlt,?_⟩
 rw[Array.getD_eq_getD_getElem?,h6,Option.getD_some] at h
 unfold F7 at h
 rw[←Array.foldl_toList] at h
 rcases I7 (fun n=>acc'.getD n 0) a _ 0 h with h | ⟨e,h7,h8,h9⟩
 ·simp at h
 ·refine⟨e,by simpa using h7,h8,?_⟩
  rcases h9 with h9 | h9
  ·exact .inl h9
  ·right
   by_cases he:e.on < b
   ·refine⟨he,?_⟩
    rw[Array.getD_eq_getD_getElem?,←h4 e.on he,←Array.getD_eq_getD_getElem?]
    exact h9
   ·rw[Array.getD_eq_getD_getElem?,Array.getElem?_eq_none (by omega)] at h9
    simp at h9
theorem I8 {all:Array Oper} {S:Nat→Prop} (hS : ∀ b o,S b→all[b]? = some o → ∀ e∈o.after,Region.binds .any e=true→S e.on) : ∀(b a:Nat),(∀ o,all[b]? = some o → ∀ e∈o.after,Region.binds .any e=true→S e.on)→((Region.before all).getD b 0).testBit a=true→S a:=by
 intro b
 induction b using Nat.strongRecOn with
 | _ b ih =>
  intro a hb h
  obtain⟨o,ho,e,he,hbd,h | ⟨hlt,h⟩⟩:=S1 h
  ·rw[←h]
   exact hb o ho e he hbd
  ·have hse:=hb o ho e he hbd
   exact ih e.on hlt a (fun o' ho' e' he' hb'=>hS e.on o' hse ho' e' he' hb') h
structure Tr where
 i:Nat
 o:Oper
 v:SV
 u:Up
 see:List Nat
 ran:Bool
def lU (τ:Tr):Bt:={i:=τ.i,see:=τ.see,turn:=τ.u.map (·.1)}
def jj (S:Nat→Bool):List Tr→List SV→List SV
 | [],sl=>sl
 | τ :: T,sl=>jj S T (if S τ.i=true then nQ sl τ.o.dst τ.v else sl)
def ko (S:Nat→Bool):List Tr→(Nat→Option aY)→Nat→Option aY
 | [],g=>g
 | τ :: T,g=>ko S T (if S τ.i=true then bq g τ.u else g)
theorem EV {S:Nat→Bool} : ∀ {T:List Tr} {sl:List SV},(∀ τ∈T,S τ.i=false)→jj S T sl=sl
 | [],_,_=>rfl
 | τ :: T,sl,h=>by
  unfold jj
  rw[if_neg (by rw[h τ (by simp)]; simp)]
  exact EV fun τ hτ=>h τ (List.mem_cons_of_mem _ hτ)
theorem EW {S:Nat→Bool} : ∀ {T:List Tr} {g:Nat→Option aY},(∀ τ∈T,S τ.i=false)→ko S T g=g
 | [],_,_=>rfl
 | τ :: T,g,h=>by
  unfold ko
  rw[if_neg (by rw[h τ (by simp)]; simp)]
  exact EW fun τ hτ=>h τ (List.mem_cons_of_mem _ hτ)
theorem BE {S S':Nat→Bool} : ∀ {T:List Tr} {sl:List SV},(∀ τ∈T,S τ.i=S' τ.i)→jj S T sl=jj S' T sl
 | [],_,_=>rfl
 | τ :: T,sl,h=>by
  unfold jj
  rw[h τ (by simp)]
  exact BE fun τ hτ=>h τ (List.mem_cons_of_mem _ hτ)
theorem BF {S S':Nat→Bool} : ∀ {T:List Tr} {g:Nat→Option aY},(∀ τ∈T,S τ.i=S' τ.i)→ko S T g=ko S' T g
 | [],_,_=>rfl
 | τ :: T,g,h=>by
  unfold ko
  rw[h τ (by simp)]
  exact BF fun τ hτ=>h τ (List.mem_cons_of_mem _ hτ)
theorem D0 : ∀(l:List SV) (d:Nat) (v:SV),(dA l d v).length=l.length
 | [],_,_=>rfl
 | x :: l,0,v=>rfl
 | x :: l,d+1,v=>by simp[dA,D0 l d v]
theorem Lw : ∀(l:List SV) (d t:Nat) (v:SV),d≠t→gZ (dA l d v) t=gZ l t
 | [],_,_,_,_=>rfl
 | x :: l,0,0,v,h=>absurd rfl h
 | x :: l,0,t+1,v,h=>rfl
 | x :: l,d+1,0,v,h=>rfl
 | x :: l,d+1,t+1,v,h=>Lw l d t v (fun e=>h (by rw[e]))
theorem I9 : ∀(l l':List SV) (d:Nat) (v:SV),l.length=l'.length→gZ (dA l d v) d=gZ (dA l' d v) d
 | [],[],_,_,_=>rfl
 | [],_ :: _,_,_,h=>by simp at h
 | _ :: _,[],_,_,h=>by simp at h
 | x :: l,y :: l',0,v,h=>rfl
 | x :: l,y :: l',d+1,v,h=>I9 l l' d v (by simpa using h)
theorem Lx : ∀(l:List SV) (d e:Nat) (v u:SV),d≠e→dA (dA l d v) e u=dA (dA l e u) d v
 | [],_,_,_,_,_=>rfl
 | x :: l,0,0,v,u,h=>absurd rfl h
 | x :: l,0,e+1,v,u,h=>rfl
 | x :: l,d+1,0,v,u,h=>rfl
 | x :: l,d+1,e+1,v,u,h=>congrArg (x :: ·) (Lx l d e v u (fun hh=>h (by rw[hh])))
theorem F8 {S S':Nat→Bool} {t:Nat} : ∀ {T:List Tr} {sl sl':List SV},(∀ τ∈T,τ.o.dst=some t→S τ.i=S' τ.i)→sl.length=sl'.length→gZ sl t=gZ sl' t→gZ (jj S T sl) t=gZ (jj S' T sl') t
 | [],_,_,_,_,h=>h
 | τ :: T,sl,sl',hT,hl,hs=>by
  unfold jj
  refine F8 (fun τ hτ=>hT τ (List.mem_cons_of_mem _ hτ)) ?_ ?_
  ·have : ∀(S:Nat→Bool) (sl:List SV),(if S τ.i=true then nQ sl τ.o.dst τ.v else sl).length=sl.length:=by
    intro S sl
    split
    ·unfold nQ
     split
     ·exact D0 _ _ _
     ·rfl
    ·rfl
   rw[this,this,hl]
  ·by_cases hd:τ.o.dst=some t
   ·rw[hT τ (by simp) hd]
    split
    ·rw[hd]
     exact I9 _ _ _ _ hl
    ·exact hs
   ·have : ∀(S:Nat→Bool) (sl:List SV),gZ (if S τ.i=true then nQ sl τ.o.dst τ.v else sl) t=gZ sl t:=by
     intro S sl
     split
     ·unfold nQ
      split
      ·rename_i d hdd
       exact Lw _ _ _ _ (fun e=>hd (by rw[hdd,e]))
      ·rfl
     ·rfl
    rw[this,this,hs]
theorem pl {u:Up} {r:Nat} : ∀ {g g':Nat→Option aY},(g r=g' r→bq g u r=bq g' u r)∧(r ∉ u.map (·.1)→bq g u r=g r):=by
 induction u with
 | nil=>exact fun {g g'}=>⟨fun h=>h,fun _=>rfl⟩
 | cons p u ih =>
  intro g g'
  obtain⟨k,x⟩:=p
  constructor
  ·intro h
   refine(ih (g:=fun s=>if s=k then x else g s) (g':=fun s=>if s=k then x else g' s)).1 ?_
   by_cases hk:r=k
   ·rw[if_pos hk,if_pos hk]
   ·rw[if_neg hk,if_neg hk,h]
  ·intro h
   rw[List.map_cons,List.mem_cons] at h
   show bq (fun s=>if s=k then x else g s) u r=g r
   rw[(ih (g:=fun s=>if s=k then x else g s) (g':=g)).2 (fun hh=>h (.inr hh)),if_neg (fun e=>h (.inl e))]
theorem Ly {S S':Nat→Bool} {r:Nat} : ∀ {T:List Tr} {g g':Nat→Option aY},(∀ τ∈T,r∈τ.u.map (·.1)→S τ.i=S' τ.i)→g r=g' r→ko S T g r=ko S' T g' r
 | [],_,_,_,h=>h
 | τ :: T,g,g',hT,hs=>by
  unfold ko
  refine Ly (fun τ hτ=>hT τ (List.mem_cons_of_mem _ hτ)) ?_
  by_cases hd:r∈τ.u.map (·.1)
  ·rw[hT τ (by simp) hd]
   split
   ·exact pl.1 hs
   ·exact hs
  ·have : ∀(S:Nat→Bool) (g:Nat→Option aY),(if S τ.i=true then bq g τ.u else g) r=g r:=by
    intro S g
    split
    ·exact(pl (g':=g)).2 hd
    ·rfl
   rw[this,this,hs]
theorem S2 {sl:List SV} {d e:Option Nat} {v u:SV} (h : ∀ t,d=some t→e≠some t):nQ (nQ sl d v) e u=nQ (nQ sl e u) d v:=by
 cases d with
 | none=>cases e <;> rfl
 | some d=>cases e with
  | none=>rfl
  | some e=>exact Lx sl d e v u (fun hh=>h d rfl (by rw[hh]))
theorem S3 {g:Nat→Option aY} {u u':Up} (h : ∀ r,r∈u.map (·.1)→r ∉ u'.map (·.1)):bq (bq g u) u'=bq (bq g u') u:=by
 funext r
 by_cases h1:r∈u.map (·.1)
 ·rw[(pl (g':=g)).2 (h r h1)]
  exact pl.1 (((pl (g':=g)).2 (h r h1)).symm)
 ·rw[(pl (u:=u) (g':=g)).2 h1]
  exact pl.1 ((pl (u:=u) (g':=g)).2 h1)
theorem F9 {S:Nat→Bool} {τ:Tr} (hS:S τ.i=false) : ∀ {T:List Tr} {sl:List SV},τ∈T→(T.map (·.i)).Nodup→(∀ τ'∈T,S τ'.i=true→τ.i < τ'.i → ∀ t,τ.o.dst=some t→τ'.o.dst≠some t)→T.Pairwise (fun x y=>x.i < y.i) →
  jj (fun j=>S j || j == τ.i) T sl=nQ (jj S T sl) τ.o.dst τ.v
 | [],_,h,_,_,_=>by simp at h
 | τ0 :: T,sl,hm,hnd,hc,hp=>by
  rw[List.map_cons,List.nodup_cons] at hnd
  rw[List.pairwise_cons] at hp
  unfold jj
  rcases List.mem_cons.1 hm with rfl | hm'
  ·have e1 : ∀ τ'∈T,(S τ'.i || τ'.i == τ.i)=S τ'.i:=fun τ' hτ'=>by
    have:τ'.i≠τ.i:=fun e=>hnd.1 (by rw[←e]; exact List.mem_map_of_mem (f:=(·.i)) hτ')
    simp[this]
   rw[BE e1,if_pos (by simp),if_neg (by rw[hS]; simp)]
   have key : ∀(T:List Tr) (sl:List SV),(∀ τ'∈T,S τ'.i=true → ∀ t,τ.o.dst=some t→τ'.o.dst≠some t)→jj S T (nQ sl τ.o.dst τ.v)=nQ (jj S T sl) τ.o.dst τ.v:=by
    intro T
    induction T with
    | nil=>intro sl _; rfl
    | cons τ' T ih =>
     intro sl h
     unfold jj
     split
     ·rename_i hs
      rw[S2 (h τ' (by simp) hs)]
      exact ih _ (fun τ hτ=>h τ (List.mem_cons_of_mem _ hτ))
     ·exact ih _ (fun τ hτ=>h τ (List.mem_cons_of_mem _ hτ))
   exact key T sl (fun τ' hτ' hs=>hc τ' (List.mem_cons_of_mem _ hτ') hs (hp.1 τ' hτ'))
  ·have hne:τ0.i≠τ.i:=fun e=>hnd.1 (by rw[e]; exact List.mem_map_of_mem (f:=(·.i)) hm')
   have:(S τ0.i || τ0.i == τ.i)=S τ0.i:=by simp[hne]
   rw[this]
   exact F9 hS hm' hnd.2 (fun τ' hτ'=>hc τ' (List.mem_cons_of_mem _ hτ')) hp.2
theorem Ga {S:Nat→Bool} {τ:Tr} (hS:S τ.i=false) : ∀ {T:List Tr} {g:Nat→Option aY},τ∈T→(T.map (·.i)).Nodup→(∀ τ'∈T,S τ'.i=true→τ.i < τ'.i → ∀ r,r∈τ.u.map (·.1)→r ∉ τ'.u.map (·.1))→T.Pairwise (fun x y=>x.i < y.i) →
  ko (fun j=>S j || j == τ.i) T g=bq (ko S T g) τ.u
 | [],_,h,_,_,_=>by simp at h
 | τ0 :: T,g,hm,hnd,hc,hp=>by
  rw[List.map_cons,List.nodup_cons] at hnd
  rw[List.pairwise_cons] at hp
  unfold ko
  rcases List.mem_cons.1 hm with rfl | hm'
  ·have e1 : ∀ τ'∈T,(S τ'.i || τ'.i == τ.i)=S τ'.i:=fun τ' hτ'=>by
    have:τ'.i≠τ.i:=fun e=>hnd.1 (by rw[←e]; exact List.mem_map_of_mem (f:=(·.i)) hτ')
    simp[this]
   rw[BF e1,if_pos (by simp),if_neg (by rw[hS]; simp)]
   have key : ∀(T:List Tr) (g:Nat→Option aY),(∀ τ'∈T,S τ'.i=true → ∀ r,r∈τ.u.map (·.1)→r ∉ τ'.u.map (·.1))→ko S T (bq g τ.u)=bq (ko S T g) τ.u:=by
    intro T
    induction T with
    | nil=>intro g _; rfl
    | cons τ' T ih =>
     intro g h
     unfold ko
     split
     ·rename_i hs
      rw[S3 (h τ' (by simp) hs)]
      exact ih _ (fun τ hτ=>h τ (List.mem_cons_of_mem _ hτ))
     ·exact ih _ (fun τ hτ=>h τ (List.mem_cons_of_mem _ hτ))
   exact key T g (fun τ' hτ' hs=>hc τ' (List.mem_cons_of_mem _ hτ') hs (hp.1 τ' hτ'))
  ·have hne:τ0.i≠τ.i:=fun e=>hnd.1 (by rw[e]; exact List.mem_map_of_mem (f:=(·.i)) hm')
   have:(S τ0.i || τ0.i == τ.i)=S τ0.i:=by simp[hne]
   rw[this]
   exact Ga hS hm' hnd.2 (fun τ' hτ'=>hc τ' (List.mem_cons_of_mem _ hτ')) hp.2
section
variable {P:Program} {E:cO} {call:(I:an)→List SV→aH→Option (I.sh.den×I.bx.den)} {w0:World} {X:Nat→Prop} {Pr0:Nat→Nat→Prop}
variable {R:Type} {K:St→Option R} {z:R}
def Vh (E:cO) (call:(I:an)→List SV→aH→Option (I.sh.den×I.bx.den)) (all:Array Oper) (base:Nat) (τ:Tr) (sl:List SV) (g:Nat→Option aY):Prop :=
 iC all τ.o sl τ.ran∧(τ.ran=true → ∃ res,cK E call τ.o ((ed τ.o.op).map (ev sl)) res (base+64*τ.i) cI=some (τ.v,τ.u) ∧ ∀ r x,az res r=some x→r∈τ.see∧g r=some x)∧(τ.ran=false→τ.v = .tup []∧τ.u=[])
theorem Lz {all:Array Oper} {base:Nat} : ∀ {l:List (Nat×Oper)} {g:List Bt} {σ:St},cR E call all true base l g σ K=some z→(l.map (·.1)).Pairwise (· < ·) →
  ∃(T:List Tr) (σ':St),T.map (fun τ=>(τ.i,τ.o))=l∧(∀ τ∈T,Vh E call all base τ (jj (fun j=>decide (j < τ.i)) T σ.slots) (ko (fun j=>decide (j < τ.i)) T (az σ.res)))∧σ'.slots=jj (fun _=>true) T σ.slots∧az σ'.res=ko (fun _=>true) T (az σ.res) ∧
   σ'.n0=σ.n0∧σ'.nx=σ.nx∧K σ'=some z∧CX all (Region.before all) ((T.map lU).reverse++g)=true∧HJ all=true
 | [],g,σ,h,_=>by
  unfold cR at h
  simp only at h
  split at h
  ·rename_i h1 h2
   exact⟨[],σ,rfl,fun τ hτ=>by simp at hτ,rfl,rfl,rfl,rfl,h,h1,h2⟩
  ·cases h
 | (i,o) :: l,g,σ,h,hp=>by
  obtain⟨ran,v,u,see,hg,hran,hskip,hrest⟩:=DY h
  rw[List.map_cons,List.pairwise_cons] at hp
  obtain⟨T,σ',h1,h2,h3,h4,h5,h6,h7,h8,h9⟩:=Lz hrest hp.2
  have hT : ∀ τ∈T,i < τ.i:=by
   intro τ hτ
   have:(τ.i,τ.o)∈l:=by
    rw[←h1]
    exact List.mem_map_of_mem (f:=fun τ:Tr=>(τ.i,τ.o)) hτ
   exact hp.1 _ (List.mem_map_of_mem (f:=(·.1)) this)
  have hres:az (oM σ o.dst v u).res=bq (az σ.res) u:=rS
  refine⟨⟨i,o,v,u,see,ran⟩ :: T,σ',by rw[List.map_cons,h1],?_,?_,?_,h5,h6,h7,?_,h9⟩
  ·intro τ hτ
   rcases List.mem_cons.1 hτ with rfl | hτ
   ·have hno : ∀ τ'∈T,decide (τ'.i < i)=false:=fun τ' hτ'=>by
     have:=hT τ' hτ'
     simp
     omega
    have e1:jj (fun j=>decide (j < i)) (⟨i,o,v,u,see,ran⟩ :: T) σ.slots=σ.slots:=by
     unfold jj
     rw[if_neg (by simp)]
     exact EV hno
    have e2:ko (fun j=>decide (j < i)) (⟨i,o,v,u,see,ran⟩ :: T) (az σ.res)=az σ.res:=by
     unfold ko
     rw[if_neg (by simp)]
     exact EW hno
    show Vh E call all base ⟨i,o,v,u,see,ran⟩ (jj (fun j=>decide (j < i)) (⟨i,o,v,u,see,ran⟩ :: T) σ.slots) (ko (fun j=>decide (j < i)) (⟨i,o,v,u,see,ran⟩ :: T) (az σ.res))
    rw[e1,e2]
    exact⟨hg,fun hr=>⟨_,(hran hr).1,fun r x hx=>pP hx⟩,hskip⟩
   ·have hlt:=hT τ hτ
    have:=h2 τ hτ
    rw[zD,hres] at this
    unfold jj ko
    rw[if_pos (by simp[hlt]),if_pos (by simp[hlt])]
    exact this
  ·rw[h3,zD]
   rfl
  ·rw[h4,hres]
   rfl
  ·rw[List.map_cons,List.reverse_cons,List.append_assoc]
   exact h8
theorem LA {all:Array Oper} {bf:Array Nat} : ∀ {L:List Bt},CX all bf L=true→L.Pairwise fun b a=>vY all a b=true→(bf.getD b.i 0).testBit a.i=true
 | [],_ => .nil
 | b :: L,h=>by
  simp only[CX,Bool.and_eq_true,List.all_eq_true] at h
  refine List.pairwise_cons.2 ⟨fun a ha hc => ?_,LA h.2⟩
  have:=h.1 a ha
  rw[hc] at this
  simpa using this
theorem re {l m:List Nat} {r:Nat} (h1:r∈l) (h2:r∈m):kQ l m=true:=by
 unfold kQ
 rw[List.any_eq_true]
 refine⟨r,h1,?_⟩
 cases hh:zr m r with
 | true=>rfl
 | false=>exact absurd h2 (xT hh)
theorem Vi {sl sl':List SV} {x:Operand} (h : ∀ t,x = .tmp t→gZ sl t=gZ sl' t):ev sl x=ev sl' x:=by
 cases x with
 | tmp t=>exact h t rfl
 | _=>rfl
theorem QA {o:Oper} {t:Nat} (h:Operand.tmp t∈ed o.op):t∈SG o:=List.mem_filterMap.2 ⟨_,h,rfl⟩
theorem v7 {α:Type} {p q:α→Bool} : ∀ {l:List α},(∀ x∈l,q x=true→p x=true)→(∃ x∈l,p x=true∧q x=false)→(l.filter q).length < (l.filter p).length
 | [],_,h=>by
  obtain⟨x,hx,_⟩:=h
  simp at hx
 | a :: l,hq,⟨x,hx,h1,h2⟩=>by
  have hle : ∀ l:List α,(∀ x∈l,q x=true→p x=true)→(l.filter q).length≤(l.filter p).length:=by
   intro l
   induction l with
   | nil=>intro _; simp
   | cons a l ih =>
    intro h
    have:=ih (fun x hx=>h x (List.mem_cons_of_mem _ hx))
    simp only[List.filter_cons]
    by_cases ha:q a=true
    ·rw[if_pos ha,if_pos (h a (by simp) ha)]
     simpa using this
    ·rw[if_neg ha]
     split
     ·simp only[List.length_cons]; omega
     ·exact this
  have hl:=hle l (fun x hx=>hq x (List.mem_cons_of_mem _ hx))
  simp only[List.filter_cons]
  rcases List.mem_cons.1 hx with rfl | hx
  ·rw[if_neg (by rw[h2]; simp),if_pos h1]
   simp only[List.length_cons]
   omega
  ·have:=v7 (l:=l) (fun x hx=>hq x (List.mem_cons_of_mem _ hx)) ⟨x,hx,h1,h2⟩
   by_cases ha:q a=true
   ·rw[if_pos ha,if_pos (hq a (by simp) ha)]
    simpa using this
   ·rw[if_neg ha]
    split
    ·simp only[List.length_cons]; omega
    ·exact this
structure Zh (all:Array Oper) (base:Nat) (T:List Tr) (σ:St) (γ0:Nat→Option G) (listed:Array Bool) (w0:World) (X:Nat→Prop) (Pr0:Nat→Nat→Prop) (γ:Nat→Option G) (Pr:Nat→Nat→Prop) (a:Act) (w:World):Prop where
 size:listed.size=all.size
 closed : ∀ b o,listed.getD b false=true→all[b]? = some o → ∀ e∈o.after,Region.binds .any e=true→listed.getD e.on false=true
 inv:bm w0 X Pr0 (jj (fun j=>listed.getD j false) T σ.slots) (ko (fun j=>listed.getD j false) T (az σ.res)) γ Pr a w
 low : ∀ r,r < base→γ r=γ0 r
 free : ∀ i,listed.getD i false=false → ∀ r,base+64*i≤r→r < base+64*i+64→γ r=none
theorem Pf {all:Array Oper} {base:Nat} {Q:Exit→Act→World→Prop} (hS:kS (oy w0 X) P E call) (hE:gf P E) {γ0:Nat→Option G} {σ:St} {T:List Tr} (hT:T.map (fun τ=>(τ.i,τ.o))=(List.range all.size).zip all.toList)
  (hok : ∀ τ∈T,Vh E call all base τ (jj (fun j=>decide (j < τ.i)) T σ.slots) (ko (fun j=>decide (j < τ.i)) T (az σ.res))) (hord:CX all (Region.before all) (T.map lU).reverse=true) (hedge:HJ all=true)
  (hQ : ∀ γ' Pr' a' w',bm w0 X Pr0 (jj (fun _=>true) T σ.slots) (ko (fun _=>true) T (az σ.res)) γ' Pr' a' w'→(∀ r,r < base→γ' r=γ0 r)→(∀ r,base+64*all.size≤r→γ' r=none)→Q .normal a' w') :
  ∀(fuel:Nat) (listed:Array Bool) (γ:Nat→Option G) (Pr:Nat→Nat→Prop) (a:Act) (w:World),Zh all base T σ γ0 listed w0 X Pr0 γ Pr a w→((List.range all.size).filter fun j => !listed.getD j false).length≤fuel→wpAny P .any all Q fuel listed a w:=by
 have hTi:T.map (·.i)=List.range all.size:=by
  have:=congrArg (List.map (·.1)) hT
  rw[List.map_map,(range_zip' all).2] at this
  exact this
 have hTo : ∀ τ∈T,all[τ.i]? = some τ.o:=by
  intro τ hτ
  have:(τ.i,τ.o)∈(List.range all.size).zip all.toList:=by
   rw[←hT]
   exact List.mem_map_of_mem (f:=fun τ:Tr=>(τ.i,τ.o)) hτ
  exact(range_zip' all).1 _ this
 have hnd:(T.map (·.i)).Nodup:=by rw[hTi]; exact List.nodup_range
 have hpw:T.Pairwise fun x y=>x.i < y.i:=by
  have:(T.map (·.i)).Pairwise (· < ·):=by rw[hTi]; exact List.pairwise_lt_range
  exact List.pairwise_map.1 this
 have hlt : ∀ τ∈T,τ.i < all.size:=fun τ hτ=>(Array.getElem?_eq_some_iff.1 (hTo τ hτ)).1
 have hall : ∀ i,i < all.size → ∃ τ∈T,τ.i=i:=by
  intro i hi
  have:i∈T.map (·.i):=by rw[hTi]; exact List.mem_range.2 hi
  obtain⟨τ,h1,h2⟩:=List.mem_map.1 this
  exact⟨τ,h1,h2⟩
 have hcl : ∀ τ∈T,∀ τ'∈T,τ.i < τ'.i→vY all (lU τ) (lU τ')=true→((Region.before all).getD τ'.i 0).testBit τ.i=true:=by
  have h1:=LA hord
  rw[List.pairwise_reverse,List.pairwise_map] at h1
  have h2:T.Pairwise fun x y=>x.i < y.i→vY all (lU x) (lU y)=true→((Region.before all).getD y.i 0).testBit x.i=true:=h1.imp fun h _ hc=>h hc
  intro τ hτ τ' hτ'
  by_cases he:τ=τ'
  ·subst he
   intro h
   omega
  ·rcases pair_of hpw h2 hτ hτ' he with h | ⟨h3,_⟩
   ·exact h
   ·intro h
    omega
 have hdone : ∀(listed:Array Bool) (γ:Nat→Option G) (Pr:Nat→Nat→Prop) (a:Act) (w:World),Zh all base T σ γ0 listed w0 X Pr0 γ Pr a w→(∀ j,j < all.size→listed.getD j false=true)→Q .normal a w:=by
  intro listed γ Pr a w hM hl
  have e : ∀ τ∈T,listed.getD τ.i false=true:=fun τ hτ=>hl _ (hlt τ hτ)
  have h1:=hM.inv
  rw[BE (S':=fun _=>true) e,BF (S':=fun _=>true) e] at h1
  refine hQ γ Pr a w h1 hM.low fun r hr => ?_
  have hge:all.size≤(r - base) / 64:=(Nat.le_div_iff_mul_le (by omega)).2 (by omega)
  have hun:listed.getD ((r - base) / 64) false=false:=by
   rw[Array.getD_eq_getD_getElem?,Array.getElem?_eq_none (by rw[hM.size]; exact hge)]
   rfl
  have hdm:=Nat.div_add_mod (r - base) 64
  have hml:=Nat.mod_lt (r - base) (show 0 < 64 by omega)
  exact hM.free _ hun r (by omega) (by omega)
 have hback : ∀(j:Nat) (o:Oper),all[j]? = some o → ∀ e∈o.after,Region.binds .any e=true→e.on < j:=by
  intro j o ho e he hb
  have hj:j < all.size:=(Array.getElem?_eq_some_iff.1 ho).1
  have:=(List.all_eq_true.1 hedge) j (List.mem_range.2 hj)
  rw[ho] at this
  have:=(Array.all_eq_true_iff_forall_mem.1 this) e he
  rw[hb] at this
  simpa[Nat.blt_eq] using this
 intro fuel
 induction fuel with
 | zero =>
  intro listed γ Pr a w hM hf
  have hl : ∀ j,j < all.size→listed.getD j false=true:=by
   intro j hj
   cases hh:listed.getD j false with
   | true=>rfl
   | false =>
    have hmem:j∈(List.range all.size).filter fun j => !listed.getD j false:=List.mem_filter.2 ⟨List.mem_range.2 hj,by rw[hh]; rfl⟩
    rw[List.eq_nil_of_length_eq_zero (Nat.le_zero.1 hf)] at hmem
    simp at hmem
  refine⟨?_,hdone listed γ Pr a w hM hl⟩
  apply List.eq_nil_iff_forall_not_mem.2
  intro j hj
  obtain⟨h1,o,ho,_⟩:=mem_ready.1 hj
  have hjl:j < all.size:=(Array.getElem?_eq_some_iff.1 ho).1
  have:=hl j hjl
  rw[Array.getD_eq_getD_getElem?,Array.getElem?_eq_getElem (by rw[hM.size]; exact hjl)] at this h1
  simp only[Option.getD_some] at this h1
  rw[this] at h1
  cases h1
 | succ fuel ih =>
  intro listed γ Pr a w hM hf
  have hgetD : ∀ j,j < all.size→listed.getD j true=listed.getD j false:=by
   intro j hj
   rw[Array.getD_eq_getD_getElem?,Array.getD_eq_getD_getElem?,Array.getElem?_eq_getElem (by rw[hM.size]; exact hj)]
   rfl
  refine⟨fun hr=>hdone listed γ Pr a w hM ?_,fun i hi => ?_⟩
  ·intro j
   induction j using Nat.strongRecOn with
   | _ j ihj =>
    intro hj
    cases hh:listed.getD j false with
    | true=>rfl
    | false =>
     have:j∈Region.ready .any all listed:=mem_ready.2 ⟨by rw[hgetD j hj,hh],all[j],Array.getElem?_eq_getElem hj,fun e he hb=>by
      have hlt':=hback j _ (Array.getElem?_eq_getElem hj) e he hb
      exact ihj e.on hlt' (by omega)⟩
     rw[hr] at this
     simp at this
  ·obtain⟨h1,o,ho,hpre⟩:=mem_ready.1 hi
   have hil:i < all.size:=(Array.getElem?_eq_some_iff.1 ho).1
   obtain⟨τ,hτ,rfl⟩:=hall i hil
   have hoτ:=hTo τ hτ
   rw[ho] at hoτ
   cases hoτ
   have hSi:listed.getD τ.i false=false:=by rw[←hgetD _ hil]; exact h1
   have hpast : ∀ τ'∈T,τ'.i < τ.i→vY all (lU τ') (lU τ)=true→listed.getD τ'.i false=true:=by
    intro τ' hτ' hl hc
    exact I8 (S:=fun j=>listed.getD j false=true) hM.closed τ.i τ'.i (fun o' ho' e he hb=>by
     rw[ho] at ho'
     cases ho'
     exact hpre e he hb) (hcl τ' hτ' τ hτ hl hc)
   have hnext : ∀ τ'∈T,τ.i < τ'.i→vY all (lU τ) (lU τ')=true→listed.getD τ'.i false=false:=by
    intro τ' hτ' hl hc
    cases hh:listed.getD τ'.i false with
    | false=>rfl
    | true =>
     have:=I8 (S:=fun j=>listed.getD j false=true) hM.closed τ'.i τ.i (fun o' ho' e he hb=>hM.closed τ'.i o' hh ho' e he hb) (hcl τ hτ τ' hτ' hl hc)
     simp only[hSi] at this
     cases this
   have hclash : ∀(x y:Tr),x∈T→y∈T→vY all (lU x) (lU y)=(kQ x.o.dst.toList (y.o.dst.toList++mW all y.o) || kQ y.o.dst.toList (mW all x.o) || kQ (x.u.map (·.1)) (y.see++y.u.map (·.1)) || kQ (y.u.map (·.1)) x.see):=by
    intro x y hx hy
    unfold vY
    rw[show(lU x).i=x.i from rfl,show(lU y).i=y.i from rfl,hTo x hx,hTo y hy]
    rfl
   have hsl : ∀ t,t∈mW all τ.o→gZ (jj (fun j=>listed.getD j false) T σ.slots) t=gZ (jj (fun j=>decide (j < τ.i)) T σ.slots) t:=by
    intro t ht
    refine F8 (fun τ' hτ' hd => ?_) rfl rfl
    show listed.getD τ'.i false=decide (τ'.i < τ.i)
    rcases Nat.lt_trichotomy τ'.i τ.i with h | h | h
    ·rw[hpast τ' hτ' h (by rw[hclash τ' τ hτ' hτ,hd]; simp[re (l:=[t]) (m:=τ.o.dst.toList++mW all τ.o) (r:=t) (by simp) (List.mem_append_right _ ht)])]
     simp[h]
    ·rw[h,hSi]
     simp
    ·rw[hnext τ' hτ' h (by rw[hclash τ τ' hτ hτ',hd]; simp[re (l:=[t]) (m:=mW all τ.o) (r:=t) (by simp) ht])]
     simp
     omega
   have hgl : ∀ r,r∈τ.see→ko (fun j=>listed.getD j false) T (az σ.res) r=ko (fun j=>decide (j < τ.i)) T (az σ.res) r:=by
    intro r hr
    refine Ly (fun τ' hτ' hd => ?_) rfl
    show listed.getD τ'.i false=decide (τ'.i < τ.i)
    rcases Nat.lt_trichotomy τ'.i τ.i with h | h | h
    ·rw[hpast τ' hτ' h (by rw[hclash τ' τ hτ' hτ]; simp[re (m:=τ.see++τ.u.map (·.1)) hd (List.mem_append_left _ hr)])]
     simp[h]
    ·rw[h,hSi]
     simp
    ·rw[hnext τ' hτ' h (by rw[hclash τ τ' hτ hτ']; simp[re (m:=τ.see) hd hr])]
     simp
     omega
   obtain⟨hg,hran,hskip⟩:=hok τ hτ
   have hargs:(ed τ.o.op).map (ev (jj (fun j=>listed.getD j false) T σ.slots))=(ed τ.o.op).map (ev (jj (fun j=>decide (j < τ.i)) T σ.slots)):=by
    apply List.map_congr_left
    intro x hx
    refine Vi fun t ht=>hsl t ?_
    subst ht
    exact List.mem_append_left _ (QA hx)
   have hg':iC all τ.o (jj (fun j=>listed.getD j false) T σ.slots) τ.ran:=by
    unfold iC at hg ⊢
    split at hg
    ·exact hg
    ·rename_i j want hgd
     obtain⟨d,h2,h3⟩:=hg
     refine⟨d,h2,?_⟩
     rw[hsl d ?_]
     ·exact h3
     ·unfold mW
      rw[hgd]
      refine List.mem_append_right _ ?_
      simp only[h2]
      simp
   obtain⟨res,hcore,hknow⟩ : ∃ res,(τ.ran=true→cK E call τ.o ((ed τ.o.op).map (ev (jj (fun j=>listed.getD j false) T σ.slots))) res (base+64*τ.i) cI=some (τ.v,τ.u)) ∧ ∀ r x,az res r=some x→ko (fun j=>listed.getD j false) T (az σ.res) r=some x:=by
    cases hr:τ.ran with
    | false=>exact⟨[],fun h=>(by cases h),fun r x h=>(by simp[az] at h)⟩
    | true =>
     obtain⟨res,h2,h3⟩:=hran hr
     refine⟨res,fun _=>by rw[hargs]; exact h2,fun r x hx => ?_⟩
     obtain⟨h4,h5⟩:=h3 r x hx
     rw[hgl r h4]
     exact h5
   refine Lv hS hE hM.inv ho hg' hcore hknow hskip (hM.free τ.i hSi) ?_
   intro a' w' γ' Pr' hI' hγ'
   have hset : ∀ j,(listed.setIfInBounds τ.i true).getD j false=(listed.getD j false || j == τ.i):=by
    intro j
    by_cases hj:τ.i=j
    ·subst hj
     have:τ.i < listed.size:=by rw[hM.size]; exact hil
     simp[this]
    ·rw[getD_set_ne false hj]
     have:(j == τ.i)=false:=by
      rw[beq_eq_false_iff_ne]
      exact fun e=>hj e.symm
     rw[this,Bool.or_false]
   refine ih (listed.setIfInBounds τ.i true) γ' Pr' a' w' ⟨?_,?_,?_,?_,?_⟩ ?_
   ·rw[Array.size_setIfInBounds]
    exact hM.size
   ·intro b o' hb ho' e he hbd
    rw[hset] at hb
    refine getD_set_true ?_
    by_cases hbi:b=τ.i
    ·subst hbi
     rw[ho] at ho'
     cases ho'
     exact hpre e he hbd
    ·have hb':listed.getD b false=true:=by simpa[hbi] using hb
     exact hM.closed b o' hb' ho' e he hbd
   ·have e1:(fun j=>(listed.setIfInBounds τ.i true).getD j false)=fun j=>listed.getD j false || j == τ.i:=funext hset
    rw[e1]
    rw[F9 (S:=fun j=>listed.getD j false) hSi hτ hnd (fun τ' hτ' hs hlt' t hd hd'=>by
     have hm1:kQ (some t).toList ((some t).toList++mW all τ'.o)=true:=re (r:=t) (by simp) (by simp)
     have:=hnext τ' hτ' hlt' (by rw[hclash τ τ' hτ hτ',hd,hd',hm1]; rfl)
     rw[this] at hs
     cases hs) hpw]
    rw[Ga (S:=fun j=>listed.getD j false) hSi hτ hnd (fun τ' hτ' hs hlt' r hr hr'=>by
     have:=hnext τ' hτ' hlt' (by rw[hclash τ τ' hτ hτ']; simp[re (m:=τ'.see++τ'.u.map (·.1)) hr (List.mem_append_right _ hr')])
     rw[this] at hs
     cases hs) hpw]
    exact hI'
   ·intro r hr
    rw[hγ' r (by rintro⟨h2,_⟩; omega)]
    exact hM.low r hr
   ·intro j hj r h2 h3
    rw[hset] at hj
    simp only[Bool.or_eq_false_iff,beq_eq_false_iff_ne] at hj
    have hne:=hj.2
    rw[hγ' r (by
     rintro⟨h4,h5⟩
     rcases Nat.lt_or_gt_of_ne hne with h | h <;> omega)]
    exact hM.free j hj.1 r h2 h3
   ·have:=v7 (l:=List.range all.size) (p:=fun j => !listed.getD j false) (q:=fun j => !(listed.setIfInBounds τ.i true).getD j false) (fun x _ hx=>by
     rw[hset] at hx
     simp only[Bool.not_eq_true',Bool.or_eq_false_iff] at hx ⊢
     exact hx.1) ⟨τ.i,List.mem_range.2 hil,by rw[hSi]; rfl,by rw[hset]; simp⟩
    omega
where
 range_zip' (ops:Array Oper):(∀ p∈(List.range ops.size).zip ops.toList,ops[p.1]? = some p.2)∧((List.range ops.size).zip ops.toList).map (·.1)=List.range ops.size:=by
  constructor
  ·intro p hp
   obtain⟨k,hk,rfl⟩:=List.getElem_of_mem hp
   rw[List.getElem_zip]
   simp only[List.getElem_range]
   rw[←Array.getElem?_toList]
   exact List.getElem?_eq_getElem _
  ·exact List.map_fst_zip (by simp)
 pair_of {R1 R2:Tr→Tr→Prop} {T:List Tr} (h1:T.Pairwise R1) (h2:T.Pairwise R2) {x y:Tr} (hx:x∈T) (hy:y∈T) (hne:x≠y):R2 x y∨(R1 y x∧R2 y x):=by
  induction T with
  | nil=>simp at hx
  | cons t T ih =>
   rw[List.pairwise_cons] at h1 h2
   rcases List.mem_cons.1 hx with rfl | hx' <;> rcases List.mem_cons.1 hy with rfl | hy'
   ·exact absurd rfl hne
   ·exact .inl (h2.1 y hy')
   ·exact .inr ⟨h1.1 x hx',h2.1 x hx'⟩
   ·exact ih h1.2 h2.2 hx' hy'
theorem Vj {all:Array Oper} {id:Nat} {base:Nat} {Q:Exit→Act→World→Prop} (hm:P.follows .mixedOrders=true) (hS:kS (oy w0 X) P E call) (hE:gf P E) {γ0:Nat→Option G}
  {σ:St} {γ:Nat→Option G} {Pr:Nat→Nat→Prop} {a:Act} {w:World} (h:cR E call all true base ((List.range all.size).zip all.toList) [] σ K=some z)
   (hI:bm w0 X Pr0 σ.slots (az σ.res) γ Pr a w) (hlow : ∀ r,r < base→γ r=γ0 r) (hhigh : ∀ r,base≤r→γ r=none)
   (hQ : ∀ σ' γ' Pr' a' w',K σ'=some z→bm w0 X Pr0 σ'.slots (az σ'.res) γ' Pr' a' w'→(∀ r,r < base→γ' r=γ0 r)→(∀ r,base+64*all.size≤r→γ' r=none)→σ'.n0=σ.n0→σ'.nx=σ.nx→Q .normal a' w') :
   (Code.region id all true).wp P Q a w:=by
 obtain⟨T,σ',h1,h2,h3,h4,h5,h6,h7,h8,h9⟩:=Lz h (by rw[(Pf.range_zip' all).2]; exact List.pairwise_lt_range)
 rw[List.append_nil] at h8
 refine wp_region_any hm ?_
 have hnone : ∀ j,(Array.replicate all.size false).getD j false=false:=by
  intro j
  rw[Array.getD_eq_getD_getElem?]
  by_cases hj:j < all.size
  ·simp[hj]
  ·rw[Array.getElem?_eq_none (by simpa using hj)]
   rfl
 refine Pf hS hE h1 h2 h8 h9 (fun γ' Pr' a' w' hi hl hh=>hQ σ' γ' Pr' a' w' h7 (by rw[h3,h4]; exact hi) hl hh h5 h6) all.size _ γ Pr a _ ⟨by simp,?_,?_,hlow,fun i _ r hr _=>hhigh r (by omega)⟩ ?_
 ·intro b o hb
  rw[hnone] at hb
  cases hb
 ·rw[EV (fun τ _=>hnone τ.i),EW (fun τ _=>hnone τ.i)]
  exact⟨g6 (fun _ _ _ h=>h) (fun _ _ h=>h) hI.slots,hI.defers,hI.gs,hI.wfs,hI.res,hI.apart,hI.loose,hI.where_,hI.frame,hI.size,hI.os,hI.tape,hI.output,hI.prIn,hI.prOld,hI.pr0⟩
 ·refine Nat.le_trans (List.length_filter_le _ _) ?_
  simp
end
end Go.Proofs.YtnodjiikdgmeaaaGreatDoor.Abs
namespace Go.Proofs.YtnodjiikdgmeaaaGreatDoor.Abs
open Go Go.RowKit
theorem xl {P:Program} {c:Code} {Q Q':Exit→Act→World→Prop} (hq : ∀ e a w,Q e a w→Q' e a w) : ∀ {n m:Nat},n≤m → ∀ {a:Act} {w:World},Code.rounds P c Q n a w→Code.rounds P c Q' m a w
 | 0,_,_,_,_,h=>h.elim
 | n+1,0,hle,_,_,_=>absurd hle (by omega)
 | n+1,m+1,hle,a,w,h=>by
  refine Code.wp_mono (fun e a w h => ?_) (show c.wp P (Exit.then (Code.rounds P c Q n) Q) a w from h)
  cases e <;> first | exact xl hq (Nat.le_of_succ_le_succ hle) h | exact hq _ _ _ h
def cC (P:Program) (n:Nat):List Fr→(Exit→Act→World→Prop)→Exit→Act→World→Prop
 | [],Q=>Q
 | .seq b :: S,Q=>Exit.then (b.wp P (cC P n S Q)) (cC P n S Q)
 | .block id :: S,Q=>Exit.inBlock id (cC P n S Q)
 | .loop b :: S,Q=>Exit.then (Code.rounds P b (cC P n S Q) n) (cC P n S Q)
section
variable {P:Program} {E:cO} {Q:Exit→Act→World→Prop}
theorem eB {n m:Nat} (h:n≤m) : ∀(S:List Fr) {e:Exit} {a:Act} {w:World},cC P n S Q e a w→cC P m S Q e a w
 | [],_,_,_,hh=>hh
 | .seq b :: S,e,a,w,hh=>by
  cases e <;> first | exact Code.wp_mono (fun _ _ _ h'=>eB h S h') hh | exact eB h S hh
 | .block id :: S,e,a,w,hh=>by
  cases e with
  | exit j =>
   show if j=id then cC P m S Q .normal a w else cC P m S Q (.exit j) a w
   have hh':if j=id then cC P n S Q .normal a w else cC P n S Q (.exit j) a w:=hh
   split at hh'
   ·rename_i hj
    rw[if_pos hj]
    exact eB h S hh'
   ·rename_i hj
    rw[if_neg hj]
    exact eB h S hh'
  | _=>exact eB h S hh
 | .loop b :: S,e,a,w,hh=>by
  cases e <;> first | exact xl (fun _ _ _ h'=>eB h S h') h hh | exact eB h S hh
theorem oz {n:Nat} : ∀(S:List Fr) {a:Act} {w:World},Q .ret a w→cC P n S Q .ret a w
 | [],_,_,h=>h
 | .seq b :: S,_,_,h=>oz S h
 | .block id :: S,_,_,h=>oz S h
 | .loop b :: S,_,_,h=>oz S h
theorem m7 {n:Nat} {I:an} {id:Nat} : ∀(S:List Fr) {S':List Fr} {a:Act} {w:World},zu I id S=some S'→cC P n S' Q .normal a w→cC P n S Q (.exit id) a w
 | [],_,_,_,h,_=>by simp[zu] at h
 | .seq b :: S,_,_,_,h,k=>m7 (I:=I) S h k
 | .loop b :: S,_,_,_,h,k=>m7 (I:=I) S h k
 | .block j :: S,S',a,w,h,k=>by
  show if id=j then cC P n S Q .normal a w else cC P n S Q (.exit id) a w
  unfold zu at h
  by_cases hj:j=id
  ·subst hj
   have:Nat.beq j j=true:=by simp
   rw[this] at h
   cases h
   rw[if_pos rfl]
   exact k
  ·have:Nat.beq j id=false:=by
    cases hb:Nat.beq j id with
    | false=>rfl
    | true=>exact absurd (Nat.eq_of_beq_eq_true hb) hj
   rw[this] at h
   rw[if_neg (fun e=>hj e.symm)]
   exact m7 (I:=I) S h k
end
structure At (w0:World) (X:Nat→Prop) (Pr0:Nat→Nat→Prop) (γ0:Nat→Option G) (σ:St) (γ:Nat→Option G) (Pr:Nat→Nat→Prop) (a:Act) (w:World):Prop where
 inv:bm w0 X Pr0 σ.slots (az σ.res) γ Pr a w
 low : ∀ r,r < σ.n0→γ r=γ0 r
 high : ∀ r,σ.nx≤r→γ r=none
 le:σ.n0≤σ.nx
section
theorem S4 (r:Nat) (l:List Nat):l <+: CW r l:=by
 unfold CW
 split
 ·exact List.prefix_rfl
 ·exact List.prefix_append _ _
theorem ss {f:List Nat→SV→List Nat} (hf : ∀ l v,l <+: f l v) : ∀(vs:List SV) (l:List Nat),l <+: vs.foldl f l
 | [],l=>List.prefix_rfl
 | v :: vs,l=>(hf l v).trans (ss hf vs (f l v))
theorem su : ∀(d:Nat) (v:SV) (l:List Nat),l <+: rO d v l
 | 0,_,_=>List.prefix_rfl
 | d+1,v,l=>by
  cases v <;> simp only[rO] <;> first | exact List.prefix_rfl | exact S4 _ _ | exact ss (fun l v=>su d v l) _ _
theorem pQ (res:aH) : ∀(d j:Nat) (l:List Nat),l <+: uH res d j l
 | 0,_,_=>List.prefix_rfl
 | d+1,j,l=>by
  unfold uH
  split
  ·exact List.prefix_rfl
  ·split
   ·exact(su 9 _ l).trans (pQ res d (j+1) _)
   ·exact(ss (fun l v=>su 1 v l) _ l).trans (pQ res d (j+1) _)
   ·exact(ss (fun l v=>su 1 v l) _ l).trans (pQ res d (j+1) _)
   ·exact pQ res d (j+1) l
theorem N9 (res:aH) (vs:List SV) (l:List Nat):l <+: lB res vs l:=(ss (fun l v=>su 9 v l) vs l).trans (pQ res 40 0 _)
theorem rf : ∀ n,(pD n).length=n
 | 0=>rfl
 | n+1=>by simp[pD,rf n]
theorem LB : ∀ {n j:Nat},j < n→(pD n)[j]? = some j
 | n+1,j,h=>by
  unfold pD
  by_cases hj:j < n
  ·rw[List.getElem?_append_left (by rw[rf]; exact hj)]
   exact LB hj
  ·have:j=n:=by omega
   subst this
   rw[List.getElem?_append_right (by rw[rf]; omega),rf]
   simp
variable {w0:World} {X:Nat→Prop} {Pr0:Nat→Nat→Prop} {γ0 γ:Nat→Option G} {σ:St} {Pr:Nat→Nat→Prop} {a:Act} {w:World}
theorem At.norm (h:At w0 X Pr0 γ0 σ γ Pr a w) (live:List Nat) : ∃ γ',At w0 X Pr0 γ0 (norm live σ) γ' Pr a w:=by
 have hpre:=N9 σ.res (tg live 0 σ.slots) (pD σ.n0)
 have hlen:σ.n0≤(lB σ.res (tg live 0 σ.slots) (pD σ.n0)).length:=by
  have:=hpre.length_le
  rwa[rf] at this
 obtain⟨γ',h1,h2,h3⟩:=h.inv.norm live
 refine⟨γ',h1,?_,h2,hlen⟩
 intro r hr
 have hr':r < σ.n0:=hr
 rw[←h.low r hr']
 apply h3
 obtain⟨t,ht⟩:=hpre
 rw[←ht,List.getElem?_append_left (by rw[rf]; exact hr')]
 exact LB hr'
end
theorem S5 (ops:Array Oper):(∀ p∈(List.range ops.size).zip ops.toList,ops[p.1]? = some p.2)∧((List.range ops.size).zip ops.toList).map (·.1)=List.range ops.size:=by
 constructor
 ·intro p hp
  obtain⟨k,hk,rfl⟩:=List.getElem_of_mem hp
  rw[List.getElem_zip]
  simp only[List.getElem_range]
  rw[←Array.getElem?_toList]
  exact List.getElem?_eq_getElem _
 ·exact List.map_fst_zip (by simp)
section
variable {P:Program} {E:cO}
def KP (P:Program) (E:cO) (w0:World) (X:Nat→Prop) (k:Nat):Prop := ∀(I:an) {R:Type} (K:St→Option R) (c:Code) (S:List Fr) (σ:St) (z:R),run E k I K c S σ=some z → ∀(Pr0:Nat→Nat→Prop) (γ0 γ:Nat→Option G) (Pr:Nat→Nat→Prop) (a:Act) (w:World) (Q:Exit→Act→World→Prop),
 At w0 X Pr0 γ0 σ γ Pr a w→(∀ σ' γ' Pr' a' w',K σ'=some z→At w0 X Pr0 γ0 σ' γ' Pr' a' w'→σ'.n0=σ.n0→Q .normal a' w'∧Q .ret a' w') → ∀ n,k≤n→c.wp P (cC P n S Q) a w
def QB (P:Program) (E:cO) (w0:World) (X:Nat→Prop) (k:Nat):Prop := ∀(I:an) {R:Type} (K:St→Option R) (S:List Fr) (σ:St) (z:R),uL (run E k) I K S σ=some z → ∀(Pr0:Nat→Nat→Prop) (γ0 γ:Nat→Option G) (Pr:Nat→Nat→Prop) (a:Act) (w:World) (Q:Exit→Act→World→Prop),
 At w0 X Pr0 γ0 σ γ Pr a w→(∀ σ' γ' Pr' a' w',K σ'=some z→At w0 X Pr0 γ0 σ' γ' Pr' a' w'→σ'.n0=σ.n0→Q .normal a' w'∧Q .ret a' w') → ∀ n,k≤n→cC P n S Q .normal a w
theorem EX {I:an} {R:Type} {K:St→Option R} {c:Code} {S:List Fr} {σ:St}:run E 0 I K c S σ=none:=rfl
theorem oQ {k:Nat} {I:an} {R:Type} {K:St→Option R} {c:Code} {S:List Fr} {σ:St}:run E (k+1) I K c S σ=step E (run E k) I K c S σ:=rfl
theorem S6 {w0:World} {X:Nat→Prop} (k:Nat) (hR : ∀ j,j≤k→KP P E w0 X j) : ∀ j,j≤k→QB P E w0 X j:=by
 intro j
 induction j with
 | zero =>
  intro _ I R K S σ z h Pr0 γ0 γ Pr a w Q hA hQ n hn
  cases S with
  | nil=>exact(hQ σ γ Pr a w h hA rfl).1
  | cons f S=>cases f <;> (simp only[uL,EX] at h; cases h)
 | succ j ih =>
  intro hj I R K S σ z h Pr0 γ0 γ Pr a w Q hA hQ n hn
  cases S with
  | nil=>exact(hQ σ γ Pr a w h hA rfl).1
  | cons f S =>
   cases f with
   | seq b=>exact hR (j+1) hj I K b S σ z h Pr0 γ0 γ Pr a w Q hA hQ n hn
   | block id =>
    simp only[uL,oQ,step] at h
    exact ih (by omega) I K S σ z h Pr0 γ0 γ Pr a w Q hA hQ n (by omega)
   | loop b =>
    simp only[uL,oQ,step] at h
    obtain⟨m,rfl⟩ : ∃ m,n=m+1:=⟨n - 1,by omega⟩
    have:=hR j (by omega) I K b (.loop b :: S) σ z h Pr0 γ0 γ Pr a w Q hA hQ m (by omega)
    show b.wp P (Exit.then (Code.rounds P b (cC P (m+1) S Q) m) (cC P (m+1) S Q)) a w
    refine Code.wp_mono (fun e a w h => ?_) this
    cases e <;> first | exact xl (fun _ _ _ h'=>eB (by omega) S h') (Nat.le_refl _) h | exact eB (by omega) S h
theorem Ya {w0:World} {X:Nat→Prop} (hm:P.follows .mixedOrders=true) (hE:gf P E) (k:Nat) (hC : ∀ j,j < k→kS (oy w0 X) P E (fj E (run E j))) : ∀ j,j≤k→KP P E w0 X j:=by
 intro j
 induction j using Nat.strongRecOn with
 | _ j ih =>
  intro hj I R K c S σ z h Pr0 γ0 γ Pr a w Q hA hQ n hn
  cases j with
  | zero=>rw[EX] at h; cases h
  | succ j =>
   have hpop:QB P E w0 X j:=S6 j (fun i hi=>ih i (by omega) (by omega)) j (Nat.le_refl _)
   have hrun:KP P E w0 X j:=ih j (by omega) (by omega)
   rw[oQ] at h
   unfold step at h
   split at h
   ·exact wp_skip (hpop I K S σ z h Pr0 γ0 γ Pr a w Q hA hQ n (by omega))
   ·rename_i id ops draw
    dsimp only at h
    have hE':gf P {E with sub:=I.sub}:=⟨hE.ty,hE.by_,hE.fns,hE.eqs⟩
    have hC' : ∀ j,j < k→kS (oy w0 X) P {E with sub:=I.sub} (fj E (run E j)):=hC
    obtain⟨σ1,γ1,hA1,hn0,h1⟩ : ∃ σ1 γ1,At w0 X Pr0 γ0 σ1 γ1 Pr a w∧σ1.n0=σ.n0∧cR {E with sub:=I.sub} (fj E (run E j)) ops draw σ1.nx ((List.range ops.size).zip ops.toList) [] σ1 (fun σ'=>uL (run E j) I K S {σ' with nx:=σ1.nx+64*ops.size})=some z:=by
     split at h
     ·rename_i l hl
      obtain⟨γ',hA'⟩:=hA.norm l
      exact⟨norm l σ,γ',hA',rfl,h⟩
     ·exact⟨σ,γ,hA,rfl,h⟩
    have hfin : ∀(σ':St) (γ':Nat→Option G) (Pr':Nat→Nat→Prop) (a':Act) (w':World),uL (run E j) I K S {σ' with nx:=σ1.nx+64*ops.size}=some z→bm w0 X Pr0 σ'.slots (az σ'.res) γ' Pr' a' w'→(∀ r,r < σ1.nx→γ' r=γ1 r)→(∀ r,σ1.nx+64*ops.size≤r→γ' r=none)→σ'.n0=σ1.n0→σ'.nx=σ1.nx→cC P n S Q .normal a' w':=by
     intro σ' γ' Pr' a' w' h2 h3 h4 h5 h6 h7
     refine hpop I K S _ z h2 Pr0 γ0 γ' Pr' a' w' Q ⟨h3,?_,h5,?_⟩ (fun σ2 γ2 Pr2 a2 w2 h8 h9 h10=>hQ σ2 γ2 Pr2 a2 w2 h8 h9 ?_) n (by omega)
     ·intro r hr
      have hr':r < σ1.n0:=by rw[←h6]; exact hr
      rw[h4 r (Nat.lt_of_lt_of_le hr' hA1.le)]
      exact hA1.low r hr'
     ·have:=hA1.le
      show σ'.n0≤σ1.nx+64*ops.size
      omega
     ·exact h10.trans (h6.trans hn0)
    cases draw with
    | false =>
     refine wp_region ?_
     have hz:=S5 ops
     rw[←hz.2]
     refine Vg (γ0:=γ1) (hC' j (by omega)) hE' h1 hz.1 (by rw[hz.2]; exact List.nodup_range) hA1.inv (fun p hp r h2 h3=>hA1.high r (by omega)) (fun r hr=>rfl) (fun p hp=>(Array.getElem?_eq_some_iff.1 (hz.1 p hp)).1) (fun r hr=>hA1.high r (by omega)) ?_
     intro σ' γ' Pr' a' w' h2 h3 h4 h5 h6 h7
     exact hfin σ' γ' Pr' a' w' h2 h3 h4 h5 h6 h7
    | true=>exact Vj hm (hC' j (by omega)) hE' (γ0:=γ1) h1 hA1.inv (fun r hr=>rfl) hA1.high hfin
   ·rename_i x y
    refine wp_seq ?_
    exact hrun I K x (.seq y :: S) σ z h Pr0 γ0 γ Pr a w Q hA hQ n (by omega)
   ·rename_i cnd x y
    split at h
    ·rename_i b hb
     have hev:=KO hA.inv.slots cnd
     rw[hb] at hev
     have hbv:=iP hev
     split at h
     ·rename_i hbt
      rw[show b=true from hbt] at hbv
      exact wp_cond_true hbv (hrun I K x S σ z h Pr0 γ0 γ Pr a w Q hA hQ n (by omega))
     ·rename_i hbf
      have hbf':b=false:=by
       cases hh:(b:Bool) with
       | true=>exact absurd hh hbf
       | false=>rfl
      rw[hbf'] at hbv
      exact wp_cond_false hbv (hrun I K y S σ z h Pr0 γ0 γ Pr a w Q hA hQ n (by omega))
    ·cases h
   ·rename_i id x
    refine wp_block ?_
    exact hrun I K x (.block id :: S) σ z h Pr0 γ0 γ Pr a w Q hA hQ n (by omega)
   ·rename_i x
    refine wp_loop_rounds (n+1) ?_
    exact hrun I K x (.loop x :: S) σ z h Pr0 γ0 γ Pr a w Q hA hQ n (by omega)
   ·rename_i id
    split at h
    ·rename_i S' hS'
     cases j with
     | zero=>rw[EX] at h; cases h
     | succ j =>
      have hpop':QB P E w0 X j:=S6 j (fun i hi=>ih i (by omega) (by omega)) j (Nat.le_refl _)
      rw[oQ] at h
      simp only[step] at h
      exact wp_exit (m7 (I:=I) S hS' (hpop' I K S' σ z h Pr0 γ0 γ Pr a w Q hA hQ n (by omega)))
    ·cases h
   ·exact wp_ret (oz S (hQ σ γ Pr a w h hA rfl).2)
   ·cases h
end
end Go.Proofs.YtnodjiikdgmeaaaGreatDoor.Abs
namespace Go.Proofs.YtnodjiikdgmeaaaGreatDoor.Abs
open Go Go.RowKit
def pR (γ γr:Nat→Option G) (ro:List Nat) (n:Nat):Prop := ∀(i r:Nat),ro[i]? = some r→γr (n+i)=γ r
theorem pR.left {γ γr:Nat→Option G} {a b:List Nat} {n:Nat} (h:pR γ γr (a++b) n):pR γ γr a n:=fun i r hr=>h i r (by
 rw[List.getElem?_append_left (List.getElem?_eq_some_iff.1 hr).1]
 exact hr)
theorem pR.right {γ γr:Nat→Option G} {a b:List Nat} {n:Nat} (h:pR γ γr (a++b) n):pR γ γr b (n+a.length):=fun i r hr=>by
 have:=h (a.length+i) r (by
  rw[List.getElem?_append_right (by omega)]
  simpa using hr)
 rwa[←Nat.add_assoc] at this
section
variable {L:Lk} {γ γr:Nat→Option G} {res:aH} {fr:List Nat}
theorem LC {t:Ty} {v:SV} {x:t.den} (h:gm res (.val t) v=some x):de res 9 t v=some x:=by
 cases v <;> exact h
theorem uR {e:TypeId} {t:Ty} {b:Bool} {v:SV} {x:List t.den} (h:gm res (.row e t b) v=some x) : ∃ r,v = .row r∧az res r=some (.row e t x b):=by
 cases v <;> first | (cases h; done) | skip
 rename_i r
 have h':(match az res r with
  | some (.row e' s xs fr')=>match (b == fr') with
   | true=>kP? (t := .slice e' s) (.slice e t) xs
   | false=>none
  | _=>none)=some x:=h
 split at h'
 ·rename_i e' s xs fr' hg
  split at h'
  ·rename_i hb
   obtain⟨he,hx⟩:=kn h'
   cases he
   have hx:xs=x:=hx
   subst hx
   have:b=fr':=by simpa using hb
   subst this
   exact⟨r,rfl,hg⟩
  ·cases h'
 ·cases h'
theorem pT {s:Sh} {v:SV} {x:s.den} (h:gm res (.strct s) v=some x) : ∃ l,v = .strct l∧gm.go res s l=some x:=by
 cases v <;> first | (cases h; done) | skip
 rename_i l
 exact⟨l,rfl,h⟩
theorem kK {a b:Sh} {l:List SV} {x:(Sh.pair a b).den} (h:gm.go res (.pair a b) l=some x) : ∃ v l',l=v :: l'∧gm res a v=some x.1∧gm.go res b l'=some x.2:=by
 cases l with
 | nil=>cases h
 | cons v l =>
  have h':((gm res a v).bind fun x=>(gm.go res b l).bind fun y=>some (x,y))=some x:=h
  rw[Option.bind_eq_some_iff] at h'
  obtain⟨x1,h1,h'⟩:=h'
  rw[Option.bind_eq_some_iff] at h'
  obtain⟨x2,h2,h'⟩:=h'
  cases h'
  exact⟨v,l,rfl,h1,h2⟩
theorem BG {l:List SV} {x:Sh.unit.den} (h:gm.go res .unit l=some x):l=[]:=by
 cases l with
 | nil=>rfl
 | cons v l=>cases h
theorem gU (hR:iR L γ res (fun r=>r∈fr)) (hT:pH γ res) : ∀(s:Sh),(∀(t0:Ty) (v:SV) (cs:List Value) (x:s.den) (n:Nat),RT L γ t0 v cs→gm res s v=some x→(∀ r∈ff s v,r∈fr)→pR γ γr (aC s v) n → ∃ t,zt s=some t∧RT L γr t (aD s x n).1 cs) ∧
  (∀(t0:Ty) (l:List SV) (cs:List Value) (x:s.den) (n:Nat),gC L γ t0 l cs→gm.go res s l=some x→(∀ r∈ff.go s l,r∈fr)→pR γ γr (aC.go s l) n → ∃ t,zt.go s=some t∧gC L γr t (aD.go s x n).1 cs)
 | .val t=>⟨fun t0 v cs x n hv h hf hn=>by
   have hk:=uM hR 9 9 (Nat.le_refl _) (by
    intro r hr
    exact hf r (by cases v <;> exact hr)) hv (LC h)
   exact⟨t,rfl,.val hk⟩,fun t0 l cs x n hv h hf hn=>by cases l <;> cases h⟩
 | .row e t b=>⟨fun t0 v cs x n hv h hf hn=>by
   obtain⟨r,rfl,hg⟩:=uR h
   cases hv with
   | row hγ =>
    obtain⟨v',hv'⟩:=hT r e t x (.inl ⟨b,hg⟩)
    rw[hγ] at hv'
    cases hv'
    refine⟨_,rfl,RT.row ?_⟩
    have:=hn 0 r rfl
    rw[Nat.add_zero] at this
    rw[this]
    exact hγ,fun t0 l cs x n hv h hf hn=>by cases l <;> cases h⟩
 | .unit=>⟨(fun t0 v cs x n hv h hf hn=>by cases v <;> cases h),fun t0 l cs x n hv h hf hn=>by
   have:=BG h
   subst this
   cases hv
   exact⟨.unit,rfl,.nil⟩⟩
 | .ptr t=>⟨(fun t0 v cs x n hv h hf hn=>by cases v <;> cases h),fun t0 l cs x n hv h hf hn=>by cases l <;> cases h⟩
 | .strct s=>⟨fun t0 v cs x n hv h hf hn=>by
   obtain⟨l,rfl,h'⟩:=pT h
   cases hv with
   | strct hl =>
    obtain⟨t,h1,h2⟩:=(gU hR hT s).2 _ l cs x n hl h' hf hn
    refine⟨.agg t,?_,.strct h2⟩
    show(zt.go s).map Ty.agg=_
    rw[h1]
    rfl,fun t0 l cs x n hv h hf hn=>by cases l <;> cases h⟩
 | .pair a b=>⟨(fun t0 v cs x n hv h hf hn=>by cases v <;> cases h),fun t0 l cs x n hv h hf hn=>by
   obtain⟨v,l',rfl,h1,h2⟩:=kK h
   cases hv with
   | cons hv hk =>
    have hro:aC.go (.pair a b) (v :: l')=aC a v++aC.go b l':=rfl
    rw[hro] at hn
    have hc:=(give_count a).1 v x.1 n h1
    obtain⟨t1,h3,h4⟩:=(gU hR hT a).1 _ v _ x.1 n hv h1 (fun r hr=>hf r (List.mem_append_left _ hr)) hn.left
    obtain⟨t2,h5,h6⟩:=(gU hR hT b).2 _ l' _ x.2 (aD a x.1 n).2.2 hk h2 (fun r hr=>hf r (List.mem_append_right _ hr)) (by rw[hc]; exact hn.right)
    refine⟨.pair t1 t2,?_,.cons h4 h6⟩
    show((zt a).bind fun t=>(zt.go b).map fun u=>Ty.pair t u)=_
    rw[h3,h5]
    rfl⟩
where
 give_count : ∀(s:Sh),(∀(v:SV) (x:s.den) (n:Nat),gm res s v=some x→(aD s x n).2.2=n+(aC s v).length)∧(∀(l:List SV) (x:s.den) (n:Nat),gm.go res s l=some x→(aD.go s x n).2.2=n+(aC.go s l).length)
  | .val t=>⟨fun v x n h=>by cases v <;> rfl,fun l x n h=>by cases l <;> cases h⟩
  | .row e t b=>⟨fun v x n h=>by
    obtain⟨r,rfl,hg⟩:=uR h
    rfl,fun l x n h=>by cases l <;> cases h⟩
  | .unit=>⟨(fun v x n h=>by cases v <;> cases h),fun l x n h=>by
    have:=BG h
    subst this
    rfl⟩
  | .ptr t=>⟨(fun v x n h=>by cases v <;> cases h),fun l x n h=>by cases l <;> cases h⟩
  | .strct s=>⟨fun v x n h=>by
    obtain⟨l,rfl,h'⟩:=pT h
    exact(give_count s).2 l x n h',fun l x n h=>by cases l <;> cases h⟩
  | .pair a b=>⟨(fun v x n h=>by cases v <;> cases h),fun l x n h=>by
    obtain⟨v,l',rfl,h1,h2⟩:=kK h
    show(aD.go b x.2 (aD a x.1 n).2.2).2.2=n+(aC a v++aC.go b l').length
    rw[(give_count b).2 l' x.2 _ h2,(give_count a).1 v x.1 n h1,List.length_append]
    omega⟩
theorem C2 (hR:iR L γ res (fun r=>r∈fr)) (hT:pH γ res) {s:Sh} {v:SV} {u:Value} {x:s.den} {n:Nat} (hv:RV L γ v u) (h:gm res s v=some x) (hf : ∀ r∈ff s v,r∈fr) (hn:pR γ γr (aC s v) n):RV L γr (aD s x n).1 u:=by
 cases s with
 | val t =>
  obtain⟨cs,rfl,hk⟩:=g7 hR (d':=9) (Nat.le_refl _) (by
   intro r hr
   exact hf r (by cases v <;> exact hr)) hv (LC h)
  exact .val hk
 | row e t b =>
  obtain⟨r,rfl,hg⟩:=uR h
  cases hv with
  | row hγ =>
   have:=hn 0 r rfl
   rw[Nat.add_zero] at this
   exact .row (this.trans hγ)
 | unit=>cases v <;> cases h
 | ptr t=>cases v <;> cases h
 | pair a b=>cases v <;> cases h
 | strct s =>
  obtain⟨l,rfl,h'⟩:=pT h
  cases hv with
  | strct hl =>
   obtain⟨t,h1,h2⟩:=(gU hR hT s).2 _ l _ x n hl h' hf hn
   exact .strct h2
theorem sw : ∀(s:Sh),(∀(v:SV) (x:s.den) (n:Nat),gm res s v=some x → ∀ p∈(aD s x n).2.1,∃(i r:Nat) (e:TypeId) (t:Ty) (xs:List t.den) (b:Bool),p=(n+i,some (.row e t xs b))∧(aC s v)[i]? = some r∧az res r=some (.row e t xs b)) ∧
  (∀(l:List SV) (x:s.den) (n:Nat),gm.go res s l=some x → ∀ p∈(aD.go s x n).2.1,∃(i r:Nat) (e:TypeId) (t:Ty) (xs:List t.den) (b:Bool),p=(n+i,some (.row e t xs b))∧(aC.go s l)[i]? = some r∧az res r=some (.row e t xs b))
 | .val t=>⟨fun v x n h p hp=>by simp[aD] at hp,fun l x n h=>by cases l <;> cases h⟩
 | .row e t b=>⟨fun v x n h p hp=>by
   obtain⟨r,rfl,hg⟩:=uR h
   simp only[aD,List.mem_singleton] at hp
   exact⟨0,r,e,t,x,b,hp,rfl,hg⟩,fun l x n h=>by cases l <;> cases h⟩
 | .unit=>⟨(fun v x n h=>by cases v <;> cases h),fun l x n h p hp=>by simp[aD.go] at hp⟩
 | .ptr t=>⟨(fun v x n h p hp=>by cases v <;> cases h),fun l x n h=>by cases l <;> cases h⟩
 | .strct s=>⟨fun v x n h p hp=>by
   obtain⟨l,rfl,h'⟩:=pT h
   exact(sw s).2 l x n h' p hp,fun l x n h=>by cases l <;> cases h⟩
 | .pair a b=>⟨(fun v x n h=>by cases v <;> cases h),fun l x n h p hp=>by
   obtain⟨v,l',rfl,h1,h2⟩:=kK h
   have hp':p∈(aD a x.1 n).2.1++(aD.go b x.2 (aD a x.1 n).2.2).2.1:=hp
   have hro:aC.go (.pair a b) (v :: l')=aC a v++aC.go b l':=rfl
   rw[hro]
   rcases List.mem_append.1 hp' with hp | hp
   ·obtain⟨i,r,e,t,xs,b',h3,h4,h5⟩:=(sw a).1 v x.1 n h1 p hp
    exact⟨i,r,e,t,xs,b',h3,by rw[List.getElem?_append_left (List.getElem?_eq_some_iff.1 h4).1]; exact h4,h5⟩
   ·obtain⟨i,r,e,t,xs,b',h3,h4,h5⟩:=(sw b).2 l' x.2 _ h2 p hp
    have hc:=(gU.give_count a).1 v x.1 n h1
    refine⟨(aC a v).length+i,r,e,t,xs,b',?_,?_,h5⟩
    ·rw[h3,hc,Nat.add_assoc]
    ·rw[List.getElem?_append_right (by omega)]
     simpa using h4⟩
variable {n0:Nat}
theorem v8 {t:Ty} {v:SV} {x:t.den} (h:rQ n0 res (.ptr t) v=some x) : ∃ r c,v = .ptr r t []∧n0≤r∧az res r=some (.box t c)∧de [] 9 t c=some x:=by
 unfold rQ at h
 cases v <;> first | (cases h; done) | skip
 rename_i r s p
 cases p with
 | cons _ _=>cases h
 | nil =>
  simp only at h
  split at h
  ·rename_i t' c hb hg
   split at h
   ·rename_i hs
    split at h
    ·rename_i ht
     subst hs
     subst ht
     exact⟨r,c,rfl,Nat.le_of_ble_eq_true hb,hg,h⟩
    ·cases h
   ·cases h
  ·cases h
theorem n5 {a b:Sh} {l:List SV} {x:(Sh.pair a b).den} (h:l9 n0 res (.pair a b) l=some x) : ∃ v l',l=v :: l'∧rQ n0 res a v=some x.1∧l9 n0 res b l'=some x.2:=by
 cases l with
 | nil=>cases h
 | cons v l =>
  have h':((rQ n0 res a v).bind fun x=>(l9 n0 res b l).bind fun y=>some (x,y))=some x:=h
  rw[Option.bind_eq_some_iff] at h'
  obtain⟨x1,h1,h'⟩:=h'
  rw[Option.bind_eq_some_iff] at h'
  obtain⟨x2,h2,h'⟩:=h'
  cases h'
  exact⟨v,l,rfl,h1,h2⟩
theorem rT {l:List SV} {x:Sh.unit.den} (h:l9 n0 res .unit l=some x):l=[]:=by
 cases l with
 | nil=>rfl
 | cons v l=>cases h
theorem BH : ∀(s:Sh) (v:SV) (x:s.den) (n:Nat),rQ n0 res s v=some x→(aD s x n).2.2=n+(aC s v).length:=by
 intro s v x n h
 cases s with
 | val t=>exact(gU.give_count (res:=res) (.val t)).1 v x n h
 | row e t b=>exact(gU.give_count (res:=res) (.row e t b)).1 v x n h
 | strct s=>exact(gU.give_count (res:=res) (.strct s)).1 v x n h
 | pair a b =>
  have h':gm res (.pair a b) v=some x:=h
  cases v <;> cases h'
 | unit=>cases v <;> rfl
 | ptr t =>
  obtain⟨r,c,rfl,_⟩:=v8 h
  rfl
theorem Gb : ∀(s:Sh) (l:List SV) (x:s.den) (n:Nat),l9 n0 res s l=some x→(aD.go s x n).2.2=n+(aC.go s l).length
 | .val t,l,x,n,h=>by cases l <;> cases h
 | .row e t b,l,x,n,h=>by cases l <;> cases h
 | .strct s,l,x,n,h=>by cases l <;> cases h
 | .ptr t,l,x,n,h=>by cases l <;> cases h
 | .unit,l,x,n,h=>by
  have:=rT h
  subst this
  rfl
 | .pair a b,l,x,n,h=>by
  obtain⟨v,l',rfl,h1,h2⟩:=n5 h
  show(aD.go b x.2 (aD a x.1 n).2.2).2.2=n+(aC a v++aC.go b l').length
  rw[Gb b l' x.2 _ h2,BH a v x.1 n h1,List.length_append]
  omega
theorem Yb (hR:iR L γ res (fun r=>r∈fr)) (hT:pH γ res) {s:Sh} {v:SV} {u:Value} {x:s.den} {n:Nat} (hv:RV L γ v u) (h:rQ n0 res s v=some x) (hf : ∀ r∈ff s v,r∈fr) (hn:pR γ γr (aC s v) n):RV L γr (aD s x n).1 u:=by
 cases s with
 | val t=>exact C2 hR hT hv (s := .val t) h hf hn
 | row e t b=>exact C2 hR hT hv (s := .row e t b) h hf hn
 | strct s=>exact C2 hR hT hv (s := .strct s) h hf hn
 | pair a b=>exact C2 hR hT hv (s := .pair a b) h hf hn
 | unit=>exact .undef
 | ptr t =>
  obtain⟨r,c,rfl,_⟩:=v8 h
  cases hv with
  | ptr hk hp =>
   have h1:=hn 0 r rfl
   rw[Nat.add_zero] at h1
   exact .ptr (h1.trans hk) hp
theorem LD (hR:iR L γ res (fun r=>r∈fr)) (hT:pH γ res) : ∀(s:Sh) (l:List SV) (us:List Value) (x:s.den) (n:Nat),ct L γ l us→l9 n0 res s l=some x→(∀ r∈ff.go s l,r∈fr)→pR γ γr (aC.go s l) n→ct L γr (aD.go s x n).1 us
 | .val t,l,us,x,n,hv,h,hf,hn=>by cases l <;> cases h
 | .row e t b,l,us,x,n,hv,h,hf,hn=>by cases l <;> cases h
 | .strct s,l,us,x,n,hv,h,hf,hn=>by cases l <;> cases h
 | .ptr t,l,us,x,n,hv,h,hf,hn=>by cases l <;> cases h
 | .unit,l,us,x,n,hv,h,hf,hn=>by
  have:=rT h
  subst this
  cases hv
  exact .nil
 | .pair a b,l,us,x,n,hv,h,hf,hn=>by
  obtain⟨v,l',rfl,h1,h2⟩:=n5 h
  cases hv with
  | cons hv hk =>
   have hro:aC.go (.pair a b) (v :: l')=aC a v++aC.go b l':=rfl
   rw[hro] at hn
   have hc:=BH a v x.1 n h1
   exact .cons (Yb hR hT hv h1 (fun r hr=>hf r (List.mem_append_left _ hr)) hn.left)
    (LD hR hT b l' _ x.2 (aD a x.1 n).2.2 hk h2 (fun r hr=>hf r (List.mem_append_right _ hr)) (by rw[hc]; exact hn.right))
def rU (n0:Nat) (res:aH) (r:Nat) (y:aY):Prop:=(∃(e:TypeId) (t:Ty) (xs:List t.den) (b:Bool),y = .row e t xs b∧az res r=some y) ∨ ∃(t:Ty) (c:SV) (x:t.den),y = .box t (hZ (.val t x))∧n0≤r∧az res r=some (.box t c)∧de [] 9 t c=some x
theorem rU.old {r:Nat} {y:aY} (h:rU n0 res r y) : ∃ y0,az res r=some y0∧(∀(γ:Nat→Option G) r,bB γ r y0=bB γ r y) ∧ ∀ o,jo y0 o→jo y o:=by
 rcases h with⟨e,t,xs,b,rfl,hg⟩ | ⟨t,c,x,rfl,_,hg,_⟩
 ·exact⟨_,hg,fun _ _=>rfl,fun _ h=>h⟩
 ·exact⟨_,hg,fun _ _=>rfl,fun _ h=>h⟩
theorem Vk : ∀(s:Sh) (v:SV) (x:s.den) (n:Nat),rQ n0 res s v=some x→(∀ p∈(aD s x n).2.1,∃(i r:Nat) (y:aY),p=(n+i,some y)∧(aC s v)[i]? = some r∧rU n0 res r y):=by
 intro s v x n h p hp
 have old:(gm res s v=some x) → ∃(i r:Nat) (y:aY),p=(n+i,some y)∧(aC s v)[i]? = some r∧rU n0 res r y:=fun h=>by
  obtain⟨i,r,e,t,xs,b,h1,h2,h3⟩:=(sw s).1 v x n h p hp
  exact⟨i,r,_,h1,h2,.inl ⟨e,t,xs,b,rfl,h3⟩⟩
 cases s with
 | val t=>exact old h
 | row e t b=>exact old h
 | strct s=>exact old h
 | pair a b=>exact old h
 | unit=>simp[aD] at hp
 | ptr t =>
  obtain⟨r,c,rfl,h1,h2,h3⟩:=v8 h
  simp only[aD,List.mem_singleton] at hp
  exact⟨0,r,_,hp,rfl,.inr ⟨t,c,x,rfl,h1,h2,h3⟩⟩
theorem Ja : ∀(s:Sh) (l:List SV) (x:s.den) (n:Nat),l9 n0 res s l=some x → ∀ p∈(aD.go s x n).2.1,∃(i r:Nat) (y:aY),p=(n+i,some y)∧(aC.go s l)[i]? = some r∧rU n0 res r y
 | .val t,l,x,n,h=>by cases l <;> cases h
 | .row e t b,l,x,n,h=>by cases l <;> cases h
 | .strct s,l,x,n,h=>by cases l <;> cases h
 | .ptr t,l,x,n,h=>by cases l <;> cases h
 | .unit,l,x,n,h=>fun p hp=>by simp[aD.go] at hp
 | .pair a b,l,x,n,h=>fun p hp=>by
  obtain⟨v,l',rfl,h1,h2⟩:=n5 h
  have hp':p∈(aD a x.1 n).2.1++(aD.go b x.2 (aD a x.1 n).2.2).2.1:=hp
  have hro:aC.go (.pair a b) (v :: l')=aC a v++aC.go b l':=rfl
  rw[hro]
  rcases List.mem_append.1 hp' with hp | hp
  ·obtain⟨i,r,y,h3,h4,h5⟩:=Vk a v x.1 n h1 p hp
   exact⟨i,r,y,h3,by rw[List.getElem?_append_left (List.getElem?_eq_some_iff.1 h4).1]; exact h4,h5⟩
  ·obtain⟨i,r,y,h3,h4,h5⟩:=Ja b l' x.2 _ h2 p hp
   have hc:=BH a v x.1 n h1
   refine⟨(aC a v).length+i,r,y,?_,?_,h5⟩
   ·rw[h3,hc,Nat.add_assoc]
   ·rw[List.getElem?_append_right (by omega)]
    simpa using h4
end
end Go.Proofs.YtnodjiikdgmeaaaGreatDoor.Abs
namespace Go.Proofs.YtnodjiikdgmeaaaGreatDoor.Abs
open Go Go.RowKit
section
variable {L:Lk} {γ γr:Nat→Option G} {res:aH} {fr:List Nat}
theorem Yc {n0:Nat} {s:Sh} {v:SV} {x:s.den} (h:rQ n0 res s v=some x):v ≠ .undef:=by
 rintro rfl
 cases s <;> first | (cases h; done) | skip
theorem Pg {n0:Nat} : ∀ {s:Sh} {l:List SV} {x:s.den},l9 n0 res s l=some x → ∀ v∈l,v ≠ .undef
 | .val t,l,x,h=>by cases l <;> cases h
 | .row e t b,l,x,h=>by cases l <;> cases h
 | .strct s,l,x,h=>by cases l <;> cases h
 | .ptr t,l,x,h=>by cases l <;> cases h
 | .unit,l,x,h=>by
  have:=rT h
  subst this
  intro v hv
  simp at hv
 | .pair a b,l,x,h=>by
  obtain⟨v,l',rfl,h1,h2⟩:=n5 h
  intro u hu
  rcases List.mem_cons.1 hu with rfl | hu
  ·exact Yc h1
  ·exact Pg h2 u hu
theorem uS : ∀(s:Sh),(∀(v:SV) (x:s.den),gm res s v=some x → ∀ r∈aC s v,∃(e:TypeId) (t:Ty) (xs:List t.den) (b:Bool),az res r=some (.row e t xs b)) ∧
  (∀(l:List SV) (x:s.den),gm.go res s l=some x → ∀ r∈aC.go s l,∃(e:TypeId) (t:Ty) (xs:List t.den) (b:Bool),az res r=some (.row e t xs b))
 | .val t=>⟨fun v x h r hr=>by cases v <;> simp[aC] at hr,fun l x h=>by cases l <;> cases h⟩
 | .row e t b=>⟨fun v x h r hr=>by
   obtain⟨r',rfl,hg⟩:=uR h
   have:r=r':=by simpa[aC] using hr
   subst this
   exact⟨e,t,x,b,hg⟩,fun l x h=>by cases l <;> cases h⟩
 | .unit=>⟨fun v x h=>(by cases v <;> cases h),fun l x h r hr=>by
   have:=BG h
   subst this
   simp[aC.go] at hr⟩
 | .ptr t=>⟨fun v x h=>(by cases v <;> cases h),fun l x h=>by cases l <;> cases h⟩
 | .strct s=>⟨fun v x h=>by
   obtain⟨l,rfl,h'⟩:=pT h
   exact(uS s).2 l x h',fun l x h=>by cases l <;> cases h⟩
 | .pair a b=>⟨fun v x h=>(by cases v <;> cases h),fun l x h r hr=>by
   obtain⟨v,l',rfl,h1,h2⟩:=kK h
   have hr':r∈aC a v++aC.go b l':=hr
   rcases List.mem_append.1 hr' with hr | hr
   ·exact(uS a).1 v x.1 h1 r hr
   ·exact(uS b).2 l' x.2 h2 r hr⟩
theorem Xh {n0:Nat} : ∀(s:Sh) (v:SV) (x:s.den),rQ n0 res s v=some x → ∀ r∈aC s v,∃ y,rU n0 res r y:=by
 intro s v x h r hr
 have old:gm res s v=some x → ∃ y,rU n0 res r y:=fun h=>by
  obtain⟨e,t,xs,b,hg⟩:=(uS s).1 v x h r hr
  exact⟨_,.inl ⟨e,t,xs,b,rfl,hg⟩⟩
 cases s with
 | val t=>exact old h
 | row e t b=>exact old h
 | strct s=>exact old h
 | pair a b=>exact old h
 | unit=>cases v <;> simp[aC] at hr
 | ptr t =>
  obtain⟨r',c,rfl,h1,h2,h3⟩:=v8 h
  have:r=r':=by simpa[aC] using hr
  subst this
  exact⟨_,.inr ⟨t,c,x,rfl,h1,h2,h3⟩⟩
theorem LF {n0:Nat} : ∀(s:Sh) (l:List SV) (x:s.den),l9 n0 res s l=some x → ∀ r∈aC.go s l,∃ y,rU n0 res r y
 | .val t,l,x,h=>by cases l <;> cases h
 | .row e t b,l,x,h=>by cases l <;> cases h
 | .strct s,l,x,h=>by cases l <;> cases h
 | .ptr t,l,x,h=>by cases l <;> cases h
 | .unit,l,x,h=>fun r hr=>by
  have:=rT h
  subst this
  simp[aC.go] at hr
 | .pair a b,l,x,h=>fun r hr=>by
  obtain⟨v,l',rfl,h1,h2⟩:=n5 h
  have hr':r∈aC a v++aC.go b l':=hr
  rcases List.mem_append.1 hr' with hr | hr
  ·exact Xh a v x.1 h1 r hr
  ·exact LF b l' x.2 h2 r hr
theorem sx {rb:Bool} (hR:iR L γ res (fun r=>r∈fr)) (hT:pH γ res) : ∀(tab:aH) (s:Sh) (cs:List SV) (y:s.den) (n:Nat) (ub:List (Option aY)),mX rb res tab=some cs→gm.go res s cs=some y→cH rb tab (aD.go s y n).1 (rP s)=some ub →
  (∀ r∈ff.go s cs,r∈fr)→pR γ γr (aC.go s cs) n → ∀(j:Nat) (t:Ty) (c':SV),ub[j]? = some (some (.box t c')) → ∃(key:Nat) (c c0:SV),tab[j]? = some (key,.box t c0)∧az res key=some (.box t c) ∧ ∀ cells,RT L γ t c cells→RT L γr t c' cells
 | [],s,cs,y,n,ub,_,_,hb,_,_,j,t,c',hj=>by
  have:=(jU hb).1
  rw[List.eq_nil_of_length_eq_zero this] at hj
  simp at hj
 | (k,.row e t0 xs fr0) :: l,s,cs,y,n,ub,hbx,ho,hb,hf,hn,j,t,c',hj=>by
  cases rb with
  | false =>
   unfold cH at hb
   simp only[Option.bind_eq_some_iff,Option.some.injEq] at hb
   obtain⟨u',h1,rfl⟩:=hb
   have hbx':mX false res l=some cs:=hbx
   cases j with
   | zero=>simp at hj
   | succ j =>
    obtain⟨key,c,c0,h2,h3,h4⟩:=sx hR hT l s cs y n u' hbx' ho h1 hf hn j t c' (by simpa using hj)
    exact⟨key,c,c0,by simpa using h2,h3,h4⟩
  | true =>
   unfold mX at hbx
   simp only[Option.bind_eq_some_iff,Option.some.injEq] at hbx
   obtain⟨cs',h1,rfl⟩:=hbx
   cases s with
   | val _=>cases ho
   | row _ _ _=>cases ho
   | strct _=>cases ho
   | ptr _=>cases ho
   | unit=>cases ho
   | pair a b =>
    obtain⟨v,l',he,h2,h3⟩:=kK ho
    cases he
    have hro:aC.go (.pair a b) (.row k :: cs')=aC a (.row k)++aC.go b cs':=rfl
    rw[hro] at hn
    have hc:=(gU.give_count a).1 (.row k) y.1 n h2
    have hmk:(aD.go (.pair a b) y n).1=(aD a y.1 n).1 :: (aD.go b y.2 (aD a y.1 n).2.2).1:=rfl
    rw[hmk] at hb
    have hst:rP (.pair a b)=zt a :: rP b:=rfl
    rw[hst] at hb
    unfold cH at hb
    simp only at hb
    split at hb
    ·rename_i m1 vs1 s1 ts1 hv1 hs1
     obtain⟨_,rfl⟩:=List.cons.inj hv1
     obtain⟨_,rfl⟩:=List.cons.inj hs1
     simp only[Option.bind_eq_some_iff,Option.some.injEq] at hb
     obtain⟨u',h4,rfl⟩:=hb
     cases j with
     | zero=>simp at hj
     | succ j =>
      obtain⟨key,c1,c2,h5,h6,h7⟩:=sx hR hT l b cs' y.2 (aD a y.1 n).2.2 u' h1 h3 h4 (fun r hr=>hf r (List.mem_append_right _ hr)) (by rw[hc]; exact hn.right) j t c' (by simpa using hj)
      exact⟨key,c1,c2,by simpa using h5,h6,h7⟩
    ·cases hb
 | (k,.old e t0 xs) :: l,s,cs,y,n,ub,hbx,ho,hb,hf,hn,j,t,c',hj=>by
  unfold cH at hb
  simp only[Option.bind_eq_some_iff] at hb
  obtain⟨u',h1,he⟩:=hb
  cases he
  cases j with
  | zero=>simp at hj
  | succ j =>
   obtain⟨key,c,c0,h2,h3,h4⟩:=sx hR hT l s cs y n u' hbx ho h1 hf hn j t c' (by simpa using hj)
   exact⟨key,c,c0,by simpa using h2,h3,h4⟩
 | (k,.gone e t0 xs) :: l,s,cs,y,n,ub,hbx,ho,hb,hf,hn,j,t,c',hj=>by
  unfold cH at hb
  simp only[Option.bind_eq_some_iff] at hb
  obtain⟨u',h1,he⟩:=hb
  cases he
  cases j with
  | zero=>simp at hj
  | succ j =>
   obtain⟨key,c,c0,h2,h3,h4⟩:=sx hR hT l s cs y n u' hbx ho h1 hf hn j t c' (by simpa using hj)
   exact⟨key,c,c0,by simpa using h2,h3,h4⟩
 | (k,.keepF g0 caps0) :: l,s,cs,y,n,ub,hbx,ho,hb,hf,hn,j,t,c',hj=>by
  unfold cH at hb
  simp only[Option.bind_eq_some_iff] at hb
  obtain⟨u',h1,he⟩:=hb
  cases he
  cases j with
  | zero=>simp at hj
  | succ j =>
   obtain⟨key,c,c0,h2,h3,h4⟩:=sx hR hT l s cs y n u' hbx ho h1 hf hn j t c' (by simpa using hj)
   exact⟨key,c,c0,by simpa using h2,h3,h4⟩
 | (k,.rowP g0 caps0) :: l,s,cs,y,n,ub,hbx,ho,hb,hf,hn,j,t,c',hj=>by
  unfold cH at hb
  simp only[Option.bind_eq_some_iff] at hb
  obtain⟨u',h1,he⟩:=hb
  cases he
  cases j with
  | zero=>simp at hj
  | succ j =>
   obtain⟨key,c,c0,h2,h3,h4⟩:=sx hR hT l s cs y n u' hbx ho h1 hf hn j t c' (by simpa using hj)
   exact⟨key,c,c0,by simpa using h2,h3,h4⟩
 | (k,.box t0 c0) :: l,s,cs,y,n,ub,hbx,ho,hb,hf,hn,j,t,c',hj=>by
  unfold mX at hbx
  split at hbx
  ·rename_i t' c hg
   split at hbx
   ·rename_i htt
    subst htt
    rw[Option.bind_eq_some_iff] at hbx
    obtain⟨cs',h1,he⟩:=hbx
    cases he
    cases s with
    | val _=>cases ho
    | row _ _ _=>cases ho
    | strct _=>cases ho
    | ptr _=>cases ho
    | unit=>cases ho
    | pair a b =>
     obtain⟨v,l',he,h2,h3⟩:=kK ho
     cases he
     have hro:aC.go (.pair a b) (c :: cs')=aC a c++aC.go b cs':=rfl
     rw[hro] at hn
     have hc:=(gU.give_count a).1 c y.1 n h2
     have hmk:(aD.go (.pair a b) y n).1=(aD a y.1 n).1 :: (aD.go b y.2 (aD a y.1 n).2.2).1:=rfl
     rw[hmk] at hb
     have hst:rP (.pair a b)=zt a :: rP b:=rfl
     rw[hst] at hb
     unfold cH at hb
     split at hb
     ·rename_i v1 vs1 s1 ts1 hv1 hs1
      cases hv1
      obtain⟨hs2,rfl⟩:=List.cons.inj hs1
      split at hb
      ·rename_i hs1t
       rw[Option.bind_eq_some_iff] at hb
       obtain⟨u',h4,he⟩:=hb
       cases he
       cases j with
       | zero =>
        simp only[List.getElem?_cons_zero,Option.some.injEq,aY.box.injEq] at hj
        obtain⟨rfl,rfl⟩:=hj
        refine⟨k,c,c0,rfl,hg,fun cells hcells => ?_⟩
        obtain⟨t2,h5,h6⟩:=(gU hR hT a).1 _ c cells y.1 n hcells h2 (fun r hr=>hf r (List.mem_append_left _ hr)) hn.left
        rw[hs2] at h5
        cases h5
        rw[←hs1t]
        exact h6
       | succ j =>
        obtain⟨key,c1,c2,h5,h6,h7⟩:=sx hR hT l b cs' y.2 (aD a y.1 n).2.2 u' h1 h3 h4 (fun r hr=>hf r (List.mem_append_right _ hr)) (by rw[hc]; exact hn.right) j t c' (by simpa using hj)
        exact⟨key,c1,c2,by simpa using h5,h6,h7⟩
      ·cases hb
     ·cases hb
   ·cases hbx
  ·cases hbx
theorem pm {rb:Bool} : ∀(tab:aH) (s:Sh) (cs:List SV) (y:s.den) (n:Nat),mX rb res tab=some cs→gm.go res s cs=some y→pR γ γr (aC.go s cs) n → ∀ p∈dN rb tab (aD.go s y n).1,γr p.1=γ p.2
 | [],s,cs,y,n,_,_,_,p,hp=>by
  generalize (aD.go s y n).1=bs at hp
  cases bs <;> simp[dN] at hp
 | (k,.box t0 c0) :: l,s,cs,y,n,hbx,ho,hn,p,hp=>by
  unfold mX at hbx
  split at hbx
  ·split at hbx
   ·simp only[Option.bind_eq_some_iff,Option.some.injEq] at hbx
    obtain⟨cs',h1,rfl⟩:=hbx
    cases s with
    | val _=>cases ho
    | row _ _ _=>cases ho
    | strct _=>cases ho
    | ptr _=>cases ho
    | unit=>cases ho
    | pair a b =>
     obtain⟨v,l',he,h2,h3⟩:=kK ho
     cases he
     have hro : ∀ c,aC.go (.pair a b) (c :: cs')=aC a c++aC.go b cs':=fun _=>rfl
     rw[hro] at hn
     have hc:=(gU.give_count a).1 _ y.1 n h2
     have hp':p∈dN rb l (aD.go b y.2 (aD a y.1 n).2.2).1:=hp
     exact pm l b cs' y.2 _ h1 h3 (by rw[hc]; exact hn.right) p hp'
   ·cases hbx
  ·cases hbx
 | (k,.old e t0 xs) :: l,s,cs,y,n,hbx,ho,hn,p,hp=>pm l s cs y n hbx ho hn p (by unfold dN at hp; exact hp)
 | (k,.gone e t0 xs) :: l,s,cs,y,n,hbx,ho,hn,p,hp=>pm l s cs y n hbx ho hn p (by unfold dN at hp; exact hp)
 | (k,.keepF g0 caps0) :: l,s,cs,y,n,hbx,ho,hn,p,hp=>pm l s cs y n hbx ho hn p (by unfold dN at hp; exact hp)
 | (k,.rowP g0 caps0) :: l,s,cs,y,n,hbx,ho,hn,p,hp=>pm l s cs y n hbx ho hn p (by unfold dN at hp; exact hp)
 | (k,.row e t0 xs fr0) :: l,s,cs,y,n,hbx,ho,hn,p,hp=>by
  cases rb with
  | false =>
   have hbx':mX false res l=some cs:=hbx
   exact pm l s cs y n hbx' ho hn p (by unfold dN at hp; exact hp)
  | true =>
   unfold mX at hbx
   simp only[Option.bind_eq_some_iff,Option.some.injEq] at hbx
   obtain⟨cs',h1,rfl⟩:=hbx
   cases s with
   | val _=>cases ho
   | row _ _ _=>cases ho
   | strct _=>cases ho
   | ptr _=>cases ho
   | unit=>cases ho
   | pair a b =>
    obtain⟨v,l',he,h2,h3⟩:=kK ho
    cases he
    have hro:aC.go (.pair a b) (.row k :: cs')=aC a (.row k)++aC.go b cs':=rfl
    rw[hro] at hn
    have hc:=(gU.give_count a).1 (.row k) y.1 n h2
    have hmk:(aD.go (.pair a b) y n).1=(aD a y.1 n).1 :: (aD.go b y.2 (aD a y.1 n).2.2).1:=rfl
    rw[hmk] at hp
    unfold dN at hp
    simp only at hp
    split at hp
    ·rename_i m vs hv
     obtain⟨hv1,rfl⟩:=List.cons.inj hv
     rcases List.mem_cons.1 hp with rfl | hp
     ·cases a with
      | val t=>cases hv1
      | row e' t' fr' =>
       have hv2:SV.row n = .row m:=hv1
       cases hv2
       have:=hn.left 0 k rfl
       simpa using this
      | unit=>cases h2
      | pair _ _=>cases h2
      | strct _=>cases h2
      | ptr _=>cases h2
     ·exact pm l b cs' y.2 _ h1 h3 (by rw[hc]; exact hn.right) p hp
    ·simp at hp
theorem LG : ∀ {u:Up} {get:Nat→Option aY} {m:Nat} {y:aY},bq get u m=some y→(m,some y)∈u∨get m=some y
 | [],get,m,y,h => .inr h
 | (k,x) :: u,get,m,y,h=>by
  rcases LG (u:=u) (show bq (fun s=>if s=k then x else get s) u m=some y from h) with h2 | h2
  ·exact .inl (List.mem_cons_of_mem _ h2)
  ·by_cases hk:m=k
   ·rw[if_pos hk] at h2
    subst hk
    rw[h2]
    exact .inl (by simp)
   ·rw[if_neg hk] at h2
    exact .inr h2
end
section
variable {P:Program} {E:cO} {w0:World} {X:Nat→Prop} {Pr0:Nat→Nat→Prop} {γ:Nat→Option G} {Pr:Nat→Nat→Prop} {a:Act} {w:World} {σ:St}
abbrev rg (a:Act):ResultVar→Sem Value:=fun
 | .tmp t=>pure (a.tmps.getD t undef)
 | .cell c t=>do loadVar t (←asAddr (a.tmps.getD c undef))
theorem S7 (hE:gf P E) (hI:bm w0 X Pr0 σ.slots (az σ.res) γ Pr a w) (rv:ResultVar) (hne:given E σ rv ≠ .undef) : ∃ val,(rg a rv).run P w = .ok val w∧RV (Ln Pr w) γ (given E σ rv) val:=by
 cases rv with
 | tmp t=>exact⟨_,rfl,KO hI.slots (.tmp t)⟩
 | cell c T =>
  have hev:=KO hI.slots (.tmp c)
  simp only[ev,Act.eval] at hev
  simp only[given] at hne ⊢
  split at hne
  ·rename_i r s path t hsl hT
   split at hne
   ·rename_i bt c' hg
    split at hne
    ·rename_i v hv
     split at hne
     ·rename_i hst
      subst hst
      rw[hsl] at hev
      obtain⟨cs,h1,h2⟩:=EP (P:=P) hI hev hg (b9 hE hT).2 hv
      refine⟨mk s cs,?_,?_⟩
      ·generalize hx:a.tmps.getD c undef=x at *
       cases hev with
       | ptr hb hp =>
        simp only[Instr.loadAt,Instr.sureAddr,Sem.run_bind,Sem.run_pure,Result.andThen_ok] at h1
        simp only[rg,hx,asAddr,Sem.run_bind,Sem.run_pure,Result.andThen_ok]
        exact h1
      ·simp only[hsl,hT,hg,hv,if_pos]
       exact Qu h2
     ·exact absurd rfl hne
    ·exact absurd rfl hne
   ·exact absurd rfl hne
  ·exact absurd rfl hne
theorem Gc (hE:gf P E) (hI:bm w0 X Pr0 σ.slots (az σ.res) γ Pr a w) : ∀(l:List ResultVar),(∀ v∈l.map (given E σ),v ≠ .undef) → ∃ vals,(l.mapM (rg a)).run P w = .ok vals w∧ct (Ln Pr w) γ (l.map (given E σ)) vals
 | [],_=>⟨[],by simp,.nil⟩
 | rv :: l,h=>by
  obtain⟨val,h1,h2⟩:=S7 hE hI rv (h _ (by simp))
  obtain⟨vals,h3,h4⟩:=Gc hE hI l (fun v hv=>h v (by rw[List.map_cons]; exact List.mem_cons_of_mem _ hv))
  refine⟨val :: vals,?_,.cons h2 h4⟩
  simp only[List.mapM_cons,Sem.run_bind,h1,Result.andThen_ok,h3,Sem.run_pure]
theorem Oa {fn:Func} {vals:List Value} (h:(fn.results.toList.mapM (rg a)).run P w = .ok vals w):(results fn a.tmps).run P w = .ok (BC vals) w:=by
 have hm:(fn.results.mapM (rg a)).run P w = .ok vals.toArray w:=by
  rw[Array.mapM_eq_mapM_toList,Sem.run_map,h]
  rfl
 show(do let vs ←fn.results.mapM (rg a); pure (if h:vs.size=1 then vs[0] else .tuple vs):Sem Value).run P w=_
 simp only[Sem.run_bind,hm,Result.andThen_ok,Sem.run_pure]
 congr 1
 match vals with
 | []=>rfl
 | [v]=>rfl
 | v :: v' :: l =>
  rw[dif_neg (by simp)]
  rfl
theorem LH {Gp:WP} (hE:gf P E) (hP:xU Gp P E) {k:Nat} (hR : ∀ w0 X,Gp w0 X→KP P E w0 X k):kS Gp P E (fj E (run E k)):=by
 intro I args tab z key hg hz
 unfold fj at hz
 split at hz
 ·rename_i f hf
  exact hP I f key hg hf args tab z hz
 intro hcanon w γ Pr us hGp hI hlim N hN vs u n bs u' n' ub hmk1 hmk2 hub
 obtain⟨hfn,hbody,_⟩:=hE.fns key I hg
 obtain⟨c,hc⟩ : ∃ c,I.fn.body=some c:=by
  cases hb:I.fn.body with
  | none=>rw[hb] at hbody; cases hbody
  | some c=>exact⟨c,rfl⟩
 have hbo:aJ I.fn=c:=by unfold aJ; rw[hc]
 refine calls_of_wp hfn hc ?_
 have hlen:args.length=us.length:=O2 hI.slots
 have hrep : ∀ m,ct (Ln Pr w) γ (List.replicate m .undef) (List.replicate m undef):=by
  intro m
  induction m with
  | zero=>exact .nil
  | succ m ih=>exact .cons .undef ih
 have hI0:bm w (nH tab γ) Pr (start I args tab).slots (az (start I args tab).res) γ Pr {tmps:=us.toArray++Array.replicate (I.fn.ntmps - us.toArray.size) undef,defers:=[]} w:=by
  refine⟨?_,rfl,hI.gs,hI.wfs,hI.res,hI.apart,hI.loose,hI.where_,hI.frame,hI.size,hI.os,hI.tape,hI.output,hI.prIn,hI.prOld,hI.pr0⟩
  show ct (Ln Pr w) γ (args++List.replicate (I.fn.ntmps - args.length) .undef) (us.toArray++Array.replicate (I.fn.ntmps - us.toArray.size) undef).toList
  have:(us.toArray++Array.replicate (I.fn.ntmps - us.toArray.size) undef).toList=us++List.replicate (I.fn.ntmps - us.length) undef:=by simp
  rw[this,hlen]
  exact zC hI.slots (hrep _)
 have hz':run E k I (aR E I tab) c [] (start I args tab)=some z:=by rw[←hbo]; exact hz
 refine hR w (nH tab γ) hGp I (aR E I tab) c [] (start I args tab) z hz' Pr γ γ Pr _ w (bodyPost P I.fn _) ⟨hI0,fun _ _=>rfl,hlim,Nat.le_refl _⟩ ?_ k (Nat.le_refl _)
 intro σ' γ' Pr' a' w' hfin hA hn0
 have key:a'.defers=[] ∧ ∃ v,(results I.fn a'.tmps).run P w' = .ok v w' ∧ ∃ vals γr Pr2,Ending.returned v = .returned (BC vals)∧zB w (nH tab γ) γ Pr N n' vs ub (u++u') vals γr Pr2 w' ∧ ∀ p∈dN I.rb tab bs,γr p.1=γ p.2:=by
  refine⟨hA.inv.defers,?_⟩
  unfold aR at hfin
  simp only[Option.bind_eq_some_iff] at hfin
  obtain⟨x,hx,cs,hcs,y,hy,hfin⟩:=hfin
  split at hfin
  ·rename_i honce hmeet
   cases hfin
   obtain⟨vals,hrun,hvals⟩:=Gc hE hA.inv I.fn.results.toList (Pg hx)
   refine⟨BC vals,Oa hrun,vals,?_⟩
   obtain⟨Pr2,hI2,hP2,hR2,hsame,_,hkeep⟩:=jT (res:=σ'.res) hA.inv (fun r x h=>h) (ff.go I.sh (I.fn.results.toList.map (given E σ'))++ff.go I.bx cs)
   have hT2:pH γ' σ'.res:=hA.inv.tys (fun r x h=>h)
   have hL2 : ∀ b o v,Ln Pr' w' b o v→Ln Pr2 w' b o v:=fun b o v h=>⟨hP2 _ _ h.1,h.2⟩
   have hnd:=ET honce
   have hn0':σ'.n0=tab.length:=hn0
   have hnumb:pR γ' (fun m=>if N≤m then((bV I.sh (I.fn.results.toList.map (given E σ'))++bV I.bx cs)[m - N]?).bind γ' else none) (bV I.sh (I.fn.results.toList.map (given E σ'))++bV I.bx cs) N:=by
    intro i r hr
    show(if N≤N+i then _ else none)=_
    rw[if_pos (by omega),Nat.add_sub_cancel_left,hr]
    rfl
   have hcnt1:n=N+(bV I.sh (I.fn.results.toList.map (given E σ'))).length:=by
    have:=Gb I.sh _ x N hx
    have h2:(aD.go I.sh x N).2.2=n:=by
     have h3:aD.go I.sh x N=(vs,u,n):=hmk1
     rw[h3]
    rw[←h2]
    exact this
   have hcnt2:n'=N+(bV I.sh (I.fn.results.toList.map (given E σ'))++bV I.bx cs).length:=by
    have:=(gU.give_count I.bx).2 _ y n hy
    have h2:(aD.go I.bx y n).2.2=n':=by
     have h3:aD.go I.bx y n=(bs,u',n'):=hmk2
     rw[h3]
    rw[←h2,this,hcnt1,List.length_append,Nat.add_assoc]
    rfl
   have hvs:vs=(aD.go I.sh x N).1:=by
    have h3:aD.go I.sh x N=(vs,u,n):=hmk1
    rw[h3]
   have hbs:bs=(aD.go I.bx y n).1:=by
    have h3:aD.go I.bx y n=(bs,u',n'):=hmk2
    rw[h3]
   have hro : ∀ r∈bV I.sh (I.fn.results.toList.map (given E σ'))++bV I.bx cs,∃ y1,rU tab.length σ'.res r y1:=by
    intro r hr
    rcases List.mem_append.1 hr with hr | hr
    ·exact LF I.sh _ x hx r hr
    ·obtain⟨e,t,xs,b,hg⟩:=(uS I.bx).2 _ y hy r hr
     exact⟨_,.inl ⟨e,t,xs,b,rfl,hg⟩⟩
   have hget2 : ∀ r∈bV I.sh (I.fn.results.toList.map (given E σ'))++bV I.bx cs,bq (az σ'.res) (cd σ'.res (ff.go I.sh (I.fn.results.toList.map (given E σ'))++ff.go I.bx cs)) r=az σ'.res r:=fun r hr=>hsame r (fun h=>pj hmeet r hr h)
   have hrows : ∀ m w1,nO (u++u') m=some w1 → ∃(i r:Nat),m=N+i∧(bV I.sh (I.fn.results.toList.map (given E σ'))++bV I.bx cs)[i]? = some r∧rU tab.length σ'.res r w1:=by
    intro m w1 h
    rcases LG h with h | h
    ·have hu1:u=(aD.go I.sh x N).2.1:=by
      have h3:aD.go I.sh x N=(vs,u,n):=hmk1
      rw[h3]
     have hu2:u'=(aD.go I.bx y n).2.1:=by
      have h3:aD.go I.bx y n=(bs,u',n'):=hmk2
      rw[h3]
     rcases List.mem_append.1 h with h | h
     ·rw[hu1] at h
      obtain⟨i,r,y1,h1,h2,h3⟩:=Ja I.sh _ x N hx _ h
      cases h1
      exact⟨i,r,rfl,(List.getElem?_append_left (List.getElem?_eq_some_iff.1 h2).1).trans h2,h3⟩
     ·rw[hu2] at h
      obtain⟨i,r,e,t,xs,b,h1,h2,h3⟩:=(sw I.bx).2 _ y n hy _ h
      cases h1
      refine⟨(bV I.sh (I.fn.results.toList.map (given E σ'))).length+i,r,by rw[hcnt1,Nat.add_assoc],?_,.inl ⟨e,t,xs,b,rfl,h3⟩⟩
      rw[List.getElem?_append_right (by omega),Nat.add_sub_cancel_left]
      exact h2
    ·cases h
   have hinj : ∀(i i' r:Nat),(bV I.sh (I.fn.results.toList.map (given E σ'))++bV I.bx cs)[i]? = some r→(bV I.sh (I.fn.results.toList.map (given E σ'))++bV I.bx cs)[i']? = some r→i=i':=by
    intro i i' r h h'
    exact(List.getElem?_inj (List.getElem?_eq_some_iff.1 h).1 hnd).1 (h.trans h'.symm)
   have hblk : ∀(i r:Nat) (y:aY),(bV I.sh (I.fn.results.toList.map (given E σ'))++bV I.bx cs)[i]? = some r→bB (fun m=>if N≤m then((bV I.sh (I.fn.results.toList.map (given E σ'))++bV I.bx cs)[m - N]?).bind γ' else none) (N+i) y=bB γ' r y:=by
    intro i r y h
    have:=hnumb i r h
    cases y <;> simp only[bB,this]
   have hbox:=sx (γ:=γ') (γr:=fun m=>if N≤m then((bV I.sh (I.fn.results.toList.map (given E σ'))++bV I.bx cs)[m - N]?).bind γ' else none) hR2 hT2 tab I.bx cs y n ub hcs hy (by rw[←hbs]; exact hub) (fun r hr=>List.mem_append_right _ hr) (by rw[hcnt1]; exact hnumb.right)
   have hboxγ : ∀(j:Nat) (t:Ty) (c':SV),ub[j]? = some (some (.box t c')) → ∃ c1,az σ'.res j=some (.box t c1)∧γ' j=γ j∧bq (az σ'.res) (cd σ'.res (ff.go I.sh (I.fn.results.toList.map (given E σ'))++ff.go I.bx cs)) j=some (.box t c1) ∧ ∀ cells,RT (Ln Pr2 w') γ' t c1 cells→RT (Ln Pr2 w') (fun m=>if N≤m then((bV I.sh (I.fn.results.toList.map (given E σ'))++bV I.bx cs)[m - N]?).bind γ' else none) t c' cells:=by
    intro j t c' hj
    obtain⟨key,c1,c0,h1,h2,h3⟩:=hbox j t c' hj
    have hkj:key=j:=hcanon j _ h1
    subst hkj
    have hjl:key < tab.length:=(List.getElem?_eq_some_iff.1 h1).1
    refine⟨c1,h2,hA.low key (by rw[hn0']; exact hjl),?_,h3⟩
    rw[hkeep key (fun e t xs b h=>by rw[h2] at h; cases h)]
    exact h2
   refine⟨fun m=>if N≤m then((bV I.sh (I.fn.results.toList.map (given E σ'))++bV I.bx cs)[m - N]?).bind γ' else none,Pr2,rfl,?_,?_⟩
   rotate_left
   ·intro p hp
    rw[hbs] at hp
    have h1:=pm (γ:=γ') (γr:=fun m=>if N≤m then((bV I.sh (I.fn.results.toList.map (given E σ'))++bV I.bx cs)[m - N]?).bind γ' else none) tab I.bx cs y n hcs hy (by rw[hcnt1]; exact hnumb.right) p hp
    rw[←hbs] at hp
    obtain⟨j,q,h2,h3,_⟩:=jB hub p hp
    have h4:p.2 < tab.length:=by
     rw[←h3,hcanon j q h2]
     exact(List.getElem?_eq_some_iff.1 h2).1
    rw[←hA.low p.2 (by rw[hn0']; exact h4)]
    exact h1
   constructor
   case vals =>
    rw[hvs]
    exact LD hR2 hT2 I.sh _ vals x N (g6 hL2 (fun _ _ h=>h) hvals) hx (fun r hr=>List.mem_append_left _ hr) hnumb.left
   case lim =>
    intro r g hr
    split at hr
    ·rename_i hNr
     rw[Option.bind_eq_some_iff] at hr
     obtain⟨s,hs,hγ⟩:=hr
     have hsl:=(List.getElem?_eq_some_iff.1 hs).1
     refine⟨⟨hNr,by rw[hcnt2]; omega⟩,?_⟩
     obtain⟨_,⟨e,t,xs,b,rfl,hrow⟩ | ⟨t,c,x1,rfl,_,hrow,_⟩⟩:=hro s (List.mem_of_getElem? hs)
     ·obtain⟨v,css,hv,_⟩:=hA.inv.res s _ hrow
      rw[hγ] at hv
      cases hv
      obtain⟨A,m,c,rfl⟩:=hA.inv.gs _ _ _ _ hγ
      exact .inl ⟨e,t,A,m,c,rfl⟩
     ·obtain⟨b,arr,T,hv,_⟩:=hA.inv.res s _ hrow
      rw[hγ] at hv
      cases hv
      exact .inr ⟨b,t,rfl,hA.inv.wfs _ _ _ hγ⟩
    ·cases hr
   case box =>
    intro j t c' hj
    obtain⟨c1,h1,h2,h3,h4⟩:=hboxγ j t c' hj
    obtain⟨b,arr,T,h5,h6,h7⟩:=hI2.res j _ h3
    exact⟨b,arr,T,by rw[←h2]; exact h5,h6,h4 _ h7⟩
   case row =>
    intro m w1 h
    obtain⟨i,r,rfl,h1,h2⟩:=hrows m w1 h
    have hil:=(List.getElem?_eq_some_iff.1 h1).1
    refine⟨by omega,by rw[hcnt2]; omega,?_⟩
    rcases h2 with⟨e,t,xs,b,rfl,h2⟩ | ⟨t,c,x1,rfl,_,h2,h7⟩
    ·obtain⟨v,css,h3,h4,h5,h6⟩:=hI2.res r _ ((hget2 r (List.mem_of_getElem? h1)).trans h2)
     exact⟨v,css,(hnumb i r h1).trans h3,h4,h5,h6⟩
    ·obtain⟨b,arr,T,h3,h4,h5⟩:=hI2.res r _ ((hget2 r (List.mem_of_getElem? h1)).trans h2)
     have hk:=uM (L:=Ln Pr2 w') (γ:=γ') (res:=[]) (P:=fun _=>True) (fun r e t xs _ hh=>by rcases hh with⟨_,hh⟩ | hh <;> cases hh) 9 9 (Nat.le_refl _) (fun _ _=>trivial) h5 h7
     exact⟨b,arr,T,(hnumb i r h1).trans h3,h4,vZ (.val hk) fun u hu=>by
      subst hu
      exact xR (hI2.wfs _ _ _ h3)⟩
   case apart =>
    intro m m' y1 y2 b h h' hne hb
    obtain⟨i,r,rfl,h1,hh2⟩:=hrows m y1 h
    obtain⟨i',r',rfl,h1',hh2'⟩:=hrows m' y2 h'
    obtain⟨y1',h2,hbb,_⟩:=hh2.old
    obtain⟨y2',h2',hbb',_⟩:=hh2'.old
    rw[hblk i r _ h1,←hbb] at hb
    rw[hblk i' r' _ h1',←hbb']
    refine hI2.apart r r' y1' y2' b ((hget2 r (List.mem_of_getElem? h1)).trans h2) ((hget2 r' (List.mem_of_getElem? h1')).trans h2') (fun e=>hne ?_) hb
    subst e
    rw[hinj i i' r h1 h1']
   case beside =>
    intro j t c' b hj hγj m y1 h hb
    obtain⟨c1,h1,h2,h3,h4⟩:=hboxγ j t c' hj
    obtain⟨i,r,rfl,h5,hh6⟩:=hrows m y1 h
    have hjl:j < tab.length:=by
     rw[←(jU hub).1]
     exact(List.getElem?_eq_some_iff.1 hj).1
    have hne:r≠j:=by
     rintro rfl
     rcases hh6 with⟨e,t',xs,b',rfl,h6⟩ | ⟨t',c2,x1,rfl,h6,_⟩
     ·rw[h6] at h1
      cases h1
     ·omega
    obtain⟨y1',h6,hbb,_⟩:=hh6.old
    rw[hblk i r _ h5,←hbb] at hb
    exact hI2.apart r j _ _ b ((hget2 r (List.mem_of_getElem? h5)).trans h6) h3 hne hb (by simp[bB,h2,hγj])
   case boxLoose =>
    intro j t c' b hj hγj o ho
    obtain⟨c1,h1,h2,h3,h4⟩:=hboxγ j t c' hj
    exact hI2.loose j _ b h3 (by simp[bB,h2,hγj]) o ho
   case rowLoose =>
    intro m y1 b h hb o ho
    obtain⟨i,r,rfl,h1,hh2⟩:=hrows m y1 h
    obtain⟨y1',h2,hbb,hml⟩:=hh2.old
    rw[hblk i r _ h1,←hbb] at hb
    exact hml o (hI2.loose r _ b ((hget2 r (List.mem_of_getElem? h1)).trans h2) hb o ho)
   case where_ =>
    intro m y1 b h hb
    obtain⟨i,r,rfl,h1,hh2⟩:=hrows m y1 h
    obtain⟨y1',h2,hbb,_⟩:=hh2.old
    rw[hblk i r _ h1,←hbb] at hb
    exact hI2.where_ r _ b ((hget2 r (List.mem_of_getElem? h1)).trans h2) hb
   case frame=>exact hI2.frame
   case size=>exact hI2.size
   case os=>exact hI2.os
   case tape=>exact hI2.tape
   case output=>exact hI2.output
   case prIn=>exact hI2.prIn
   case prOld=>exact hI2.prOld
   case lean=>exact hI2.pr0
  ·cases hfin
 exact⟨key,key⟩
theorem S8 {Gp:WP} (hst:F3 Gp) (hm:P.follows .mixedOrders=true) (hE:gf P E) (hP:xU Gp P E) : ∀ k,kS Gp P E (fj E (run E k)):=by
 intro k
 induction k using Nat.strongRecOn with
 | _ k ih=>exact LH hE hP fun w0 X hG=>Ya hm hE k (fun j hj=>(ih j hj).weaken fun w X' hf=>hst w0 X w X' hG hf) k (Nat.le_refl _)
end
end Go.Proofs.YtnodjiikdgmeaaaGreatDoor.Abs
namespace Go.Proofs.YtnodjiikdgmeaaaGreatDoor.Abs
open Go Go.RowKit
theorem uy {α:Type} : ∀ {l:List (Nat×α)} {k:Nat} {v:α},dq l k=some v→(k,v)∈l
 | [],_,_,h=>by cases h
 | (i,x) :: l,k,v,h=>by
  unfold dq at h
  split at h
  ·rename_i hb
   cases h
   rw[Nat.eq_of_beq_eq_true hb]
   simp
  ·exact List.mem_cons_of_mem _ (uy h)
def QC:Value→Value→Bool
 | .int k n,.int k' m=>decide (k=k') && decide (n=m)
 | .bool a,.bool b=>a == b
 | .string s,.string t=>decide (s.data.toList=t.data.toList)
 | .slice none 0 0,.slice none 0 0=>true
 | .nilIface,.nilIface=>true
 | .nilFunc,.nilFunc=>true
 | .pointer none,.pointer none=>true
 | _,_=>false
theorem Vl {a b:Value} (h:QC a b=true):a=b:=by
 unfold QC at h
 split at h
 ·simp only[Bool.and_eq_true,decide_eq_true_eq] at h
  rw[h.1,h.2]
 ·rw[eq_of_beq h]
 ·have h':=of_decide_eq_true h
  rename_i s t
  cases s
  cases t
  exact congrArg (fun d=>Value.string ⟨d⟩) (Array.toList_inj.1 h')
 ·rfl
 ·rfl
 ·rfl
 ·rfl
 ·cases h
def Gd:List Value→List Value→Bool
 | [],[]=>true
 | a :: l,b :: m=>QC a b && Gd l m
 | _,_=>false
theorem Jb : ∀ {l m:List Value},Gd l m=true→l=m
 | [],[],_=>rfl
 | a :: l,b :: m,h=>by
  simp only[Gd,Bool.and_eq_true] at h
  rw[Vl h.1,Jb h.2]
 | [],_ :: _,h=>by cases h
 | _ :: _,[],h=>by cases h
def C3 (P:Program) (T:TypeId) (t:Ty):Bool:=match P.info? T,P.underlying T with
 | some i,some d=>Nat.beq i.size t.sz && (match i.zero with | some z=>Gd z.cells.toList (zc t) | none=>false) && (UZ d == pG t) && d9 false t
 | _,_=>false
theorem zE {P:Program} {T:TypeId} {t:Ty} (h:C3 P T t=true):gi P T t:=by
 unfold C3 at h
 split at h
 ·rename_i i d hi hd
  simp only[Bool.and_eq_true] at h
  obtain⟨⟨⟨h1,h2⟩,h3⟩,h4⟩:=h
  split at h2
  ·rename_i z hz
   exact⟨⟨i,hi,Nat.eq_of_beq_eq_true h1,z,hz,Jb h2⟩,⟨d,hd,eq_of_beq h3⟩,h4⟩
  ·cases h2
 ·cases h
def C4 (P:Program):List Field→Ty→Nat→Bool
 | [],.unit,_=>true
 | f :: fs,.pair a b,o=>Nat.beq f.offset o && !(f.name == "_") && Nat.blt 0 a.sz && C3 P f.type a && C4 P fs b (o+a.sz)
 | _,_,_=>false
theorem Ge {P:Program} : ∀ {fs:List Field} {t:Ty} {o:Nat},C4 P fs t o=true→O3 P fs t o
 | [],.unit,_,_=>trivial
 | f :: fs,.pair a b,o,h=>by
  simp only[C4,Bool.and_eq_true,Bool.not_eq_true'] at h
  obtain⟨⟨⟨⟨h1,h2⟩,h3⟩,h4⟩,h5⟩:=h
  exact⟨Nat.eq_of_beq_eq_true h1,fun e=>(by rw[e] at h2; simp at h2),(by simpa[Nat.blt_eq] using h3),zE h4,Ge h5⟩
 | [],.int _,_,h=>by cases h
 | [],.bool,_,h=>by cases h
 | [],.err,_,h=>by cases h
 | [],.fn,_,h=>by cases h
 | [],.pt,_,h=>by cases h
 | [],.str,_,h=>by cases h
 | [],.pair _ _,_,h=>by cases h
 | [],.agg _,_,h=>by cases h
 | [],.slice _ _,_,h=>by cases h
 | _ :: _,.int _,_,h=>by cases h
 | _ :: _,.bool,_,h=>by cases h
 | _ :: _,.err,_,h=>by cases h
 | _ :: _,.fn,_,h=>by cases h
 | _ :: _,.pt,_,h=>by cases h
 | _ :: _,.str,_,h=>by cases h
 | _ :: _,.unit,_,h=>by cases h
 | _ :: _,.agg _,_,h=>by cases h
 | _ :: _,.slice _ _,_,h=>by cases h
def LI (P:Program) (T:TypeId) (t:Ty):Bool:=match P.underlying T,t with
 | some (.int k),.int k'=>decide (k=k')
 | some .bool,.bool=>true
 | some .string,.str=>true
 | some (.slice e),.slice e' t=>Nat.beq e e' && C3 P e t && Nat.blt 0 t.sz && (!decide (t = .int .u8) || (match P.underlying e with | some (.int .u8)=>true | _=>false))
 | some (.struct fs),.agg t=>C4 P fs.toList t 0
 | some (.interface _),.err=>true
 | some _,.fn=>true
 | some _,.pt=>true
 | _,_=>false
theorem S9 {P:Program} {T:TypeId} {t:Ty} (h:LI P T t=true):mY P T t:=by
 unfold LI at h
 split at h
 ·rename_i k k' hu
  rw[of_decide_eq_true h] at hu
  exact hu
 ·rename_i hu
  exact hu
 ·rename_i hu
  exact hu
 ·rename_i e e' t hu
  simp only[Bool.and_eq_true] at h
  obtain⟨⟨⟨h1,h2⟩,h3⟩,h4⟩:=h
  have:=Nat.eq_of_beq_eq_true h1
  subst this
  refine⟨hu,zE h2,(by simpa[Nat.blt_eq] using h3),fun ht => ?_⟩
  simp only[ht,decide_true,Bool.not_true,Bool.false_or] at h4
  split at h4
  ·assumption
  ·cases h4
 ·rename_i fs t hu
  exact⟨fs,hu,Ge h⟩
 ·rename_i ms hu
  exact⟨ms,hu⟩
 ·trivial
 ·trivial
 ·cases h
def QD (P:Program) (g:TypeId→Ty→Bool):List Field→Ty→Nat→Bool
 | [],.unit,_=>true
 | f :: fs,.pair a b,o=>Nat.beq f.offset o && !(f.name == "_") && C3 P f.type a && g f.type a && QD P g fs b (o+a.sz)
 | _,_,_=>false
def pU (P:Program):Nat→TypeId→Ty→Bool
 | 0,_,_=>false
 | _+1,T,.int _=>match P.underlying T with | some (.int _)=>true | _=>false
 | _+1,T,.bool=>match P.underlying T with | some .bool=>true | _=>false
 | _+1,T,.str=>match P.underlying T with | some .string=>true | _=>false
 | d+1,T,.agg t=>match P.underlying T with
  | some (.struct fs) => !(P.stoodInHeld T) && QD P (pU P d) fs.toList t 0
  | _=>false
 | _,_,_=>false
theorem Ph {P:Program} {g:TypeId→Ty→Bool} {L:Lk} {d:Nat} {w:World} (hg : ∀ T t,g T t=true → ∀(x y:t.den) (cs ds:List Value),RK L t x cs→RK L t y ds→(Op.equalIn d T (mk t cs) (mk t ds)).run P w = .ok (bv t x y) w) :
  ∀ {fs:List Field} {t:Ty} {o:Nat},QD P g fs t o=true → ∀ {x y:t.den} {cs ds xs ys:List Value},RK L t x cs→RK L t y ds→eR cs xs o→eR ds ys o→(Op.eqFields d xs.toArray ys.toArray fs).run P w = .ok (bv t x y) w
 | [],.unit,_,_,_,_,_,_,_,_,_,_,_,_=>rfl
 | f :: fs,.pair a b,o,h,x,y,cs,ds,xs,ys,hx,hy,hsx,hsy=>by
  simp only[QD,Bool.and_eq_true,Bool.not_eq_true'] at h
  obtain⟨⟨⟨⟨h1,h2⟩,h3⟩,h4⟩,h5⟩:=h
  have h1:=Nat.eq_of_beq_eq_true h1
  have hn:f.name ≠ "_" := fun e=>by rw[e] at h2; simp at h2
  have hi:=zE h3
  obtain⟨c1,d1,rfl,hx1,hx2⟩:=hx
  obtain⟨c2,d2,rfl,hy1,hy2⟩:=hy
  have p1:=HN hi (eE hx1) ((eR.left c1 d1).trans hsx) w
  have p2:=HN hi (eE hy1) ((eR.left c2 d2).trans hsy) w
  rw[Nat.add_zero] at p1 p2
  have s1:=(eR.right c1 d1).trans hsx
  have s2:=(eR.right c2 d2).trans hsy
  rw[eE hx1] at s1
  rw[eE hy1] at s2
  have ih:=Ph hg h5 hx2 hy2 s1 s2
  have h6:=hg f.type a h4 x.1 y.1 c1 c2 hx1 hy1
  simp only[Op.eqFields,if_pos hn,h1,Sem.run_bind,p1,p2,Result.andThen_ok,h6]
  show _=Result.ok (bv a x.1 y.1 && bv b x.2 y.2) w
  cases bv a x.1 y.1 with
  | false=>simp
  | true =>
   simp only[Bool.not_true,Bool.false_eq_true,if_false,Bool.true_and]
   exact ih
 | [],.int _,_,h,_,_,_,_,_,_,_,_,_,_=>by cases h
 | [],.bool,_,h,_,_,_,_,_,_,_,_,_,_=>by cases h
 | [],.err,_,h,_,_,_,_,_,_,_,_,_,_=>by cases h
 | [],.fn,_,h,_,_,_,_,_,_,_,_,_,_=>by cases h
 | [],.pt,_,h,_,_,_,_,_,_,_,_,_,_=>by cases h
 | [],.str,_,h,_,_,_,_,_,_,_,_,_,_=>by cases h
 | [],.pair _ _,_,h,_,_,_,_,_,_,_,_,_,_=>by cases h
 | [],.agg _,_,h,_,_,_,_,_,_,_,_,_,_=>by cases h
 | [],.slice _ _,_,h,_,_,_,_,_,_,_,_,_,_=>by cases h
 | _ :: _,.int _,_,h,_,_,_,_,_,_,_,_,_,_=>by cases h
 | _ :: _,.bool,_,h,_,_,_,_,_,_,_,_,_,_=>by cases h
 | _ :: _,.err,_,h,_,_,_,_,_,_,_,_,_,_=>by cases h
 | _ :: _,.fn,_,h,_,_,_,_,_,_,_,_,_,_=>by cases h
 | _ :: _,.pt,_,h,_,_,_,_,_,_,_,_,_,_=>by cases h
 | _ :: _,.str,_,h,_,_,_,_,_,_,_,_,_,_=>by cases h
 | _ :: _,.unit,_,h,_,_,_,_,_,_,_,_,_,_=>by cases h
 | _ :: _,.agg _,_,h,_,_,_,_,_,_,_,_,_,_=>by cases h
 | _ :: _,.slice _ _,_,h,_,_,_,_,_,_,_,_,_,_=>by cases h
theorem Pi {P:Program} {L:Lk} {w:World} : ∀(n:Nat) (T:TypeId) (t:Ty),pU P n T t=true → ∀(d:Nat) (x y:t.den) (cs ds:List Value),RK L t x cs→RK L t y ds→(Op.equalIn (d+n) T (mk t cs) (mk t ds)).run P w = .ok (bv t x y) w
 | 0,_,_,h=>by simp[pU] at h
 | n+1,T,.int k,h=>fun d x y cs ds hx hy=>by
  rw[show cs=_ from hx,show ds=_ from hy]
  unfold pU at h
  split at h
  ·rename_i k' hu
   exact run_equalIn_int w (d+n) T k k' x y hu
  ·cases h
 | n+1,T,.bool,h=>fun d x y cs ds hx hy=>by
  rw[show cs=_ from hx,show ds=_ from hy]
  unfold pU at h
  split at h
  ·rename_i hu
   exact run_equalIn_bool' w (d+n) T x y hu
  ·cases h
 | n+1,T,.str,h=>fun d x y cs ds hx hy=>by
  rw[show cs=_ from hx,show ds=_ from hy]
  unfold pU at h
  split at h
  ·rename_i hu
   refine(run_equalIn_string w (d+n) T x y hu).trans ?_
   rw[←beq_toListBytes]
   rfl
  ·cases h
 | n+1,T,.agg t,h=>fun d x y cs ds hx hy=>by
  unfold pU at h
  split at h
  ·rename_i fs hu
   simp only[Bool.and_eq_true,Bool.not_eq_true'] at h
   have hf:P.fieldsOf T=fs:=by simp[Program.fieldsOf,hu]
   have hu':P.underlying T=some (.struct (P.fieldsOf T)):=by rw[hf]; exact hu
   refine(run_equalIn_agg w (d+n) T cs.toArray ds.toArray hu' h.1).trans ?_
   rw[hf]
   exact Ph (fun T t hT x y cs ds hx hy=>Pi n T t hT d x y cs ds hx hy) h.2 (t:=t) hx hy (eR.refl cs) (eR.refl ds)
  ·cases h
 | n+1,T,.unit,h=>by simp[pU] at h
 | n+1,T,.err,h=>by simp[pU] at h
 | n+1,T,.fn,h=>by simp[pU] at h
 | n+1,T,.pt,h=>by simp[pU] at h
 | n+1,T,.pair _ _,h=>by simp[pU] at h
 | n+1,T,.slice _ _,h=>by simp[pU] at h
def Vm (P:Program) (E:cO):Bool:=E.eqs.all fun p=>pG p.2 && !(P.eqGuardType P.depth p.1) && pU P 8 p.1 p.2
theorem Xi {P:Program} {E:cO} (h:Vm P E=true) : ∀ T t,dq E.eqs T=some t→X2 P T t:=by
 intro T t hT
 unfold Vm at h
 rw[List.all_eq_true] at h
 have:=h (T,t) (uy hT)
 simp only[Bool.and_eq_true,Bool.not_eq_true'] at this
 refine⟨?_,this.1.2,fun L x y cs ds w hx hy=>Pi 8 T t this.2 9992 x y cs ds hx hy⟩
 cases t <;> first | exact⟨_,rfl⟩ | cases this.1.1
def Ta (P:Program) (E:cO):Bool:=Vm P E && (E.ty.all fun p=>LI P p.1 p.2 && C3 P p.1 p.2) && E.by_.all fun p=>Nat.blt 0 p.2 && (match P.info? p.1 with | some i=>Nat.beq i.bytes p.2 | none=>true)
theorem Vn {P:Program} {E:cO} (h:Ta P E=true) (hf : ∀ p∈E.fns,P.funcs[p.2.g]? = some p.2.fn∧p.2.fn.body.isSome=true∧(p.2.fn.name == "runtime.NumGoroutine")=false):gf P E:=by
 unfold Ta at h
 simp only[Bool.and_eq_true,List.all_eq_true] at h
 obtain⟨⟨hq,h1⟩,h2⟩:=h
 have h:=And.intro h1 h2
 refine⟨fun T t hT => ?_,fun e nb i hb hi => ?_,fun g I hg=>hf (g,I) (uy hg),Xi hq⟩
 ·have:=h.1 (T,t) (uy hT)
  exact⟨S9 this.1,zE this.2⟩
 ·have:=h.2 (e,nb) (uy hb)
  simp only[hi] at this
  exact⟨Nat.eq_of_beq_eq_true this.2,by simpa[Nat.blt_eq] using this.1⟩
end Go.Proofs.YtnodjiikdgmeaaaGreatDoor.Abs
namespace Go.Proofs.YtnodjiikdgmeaaaGreatDoor.Abs
open Go Go.RowKit
section
variable {E:cO} {call call':(I:an)→List SV→aH→Option (I.sh.den×I.bx.den)}
theorem uT (hc : ∀ I args tab z,call I args tab=some z→call' I args tab=some z) {g key:Nat} {args:List SV} {res:aH} {r0:Nat} {p:SV×Up} (h:gR E call g key args res r0 cI=some p):gR E call' g key args res r0 cI=some p:=by
 unfold gR at h ⊢
 cases hI:dq E.fns key with
 | none=>rw[hI] at h; cases h
 | some I =>
  simp only[hI] at h ⊢
  cases hg:Nat.beq I.g g with
  | false=>rw[hg] at h; cases h
  | true =>
   simp only[hg] at h ⊢
   cases hv:uI res (I.fn.params.toList.map fun T=>dq E.ty T) I.own args with
   | none=>rw[hv] at h; cases h
   | some q =>
    obtain⟨args',fr⟩:=q
    simp only[hv] at h ⊢
    split at h
    ·rename_i h1 h2 h3
     rw[Option.bind_eq_some_iff] at h
     obtain⟨z,hz,h⟩:=h
     rw[Option.bind_eq_some_iff]
     exact⟨z,hc _ _ _ _ hz,h⟩
    ·cases h
theorem Ob (hc : ∀ I args tab z,call I args tab=some z→call' I args tab=some z) {g:Nat} {args:List SV} {res:aH} {r0:Nat} {p:SV×Up} (h:jA E call g args res r0 cI=some p):jA E call' g args res r0 cI=some p:=by
 unfold jA at h ⊢
 split at h
 ·exact uT hc h
 ·rename_i s hs
  rw[Option.bind_eq_some_iff] at h ⊢
  obtain⟨b,hb,h⟩:=h
  refine⟨b,hb,?_⟩
  split at h
  ·rename_i hb'
   rw[if_pos hb']
   exact uT hc h
  ·rename_i hb'
   rw[if_neg hb']
   exact uT hc h
theorem Tb (hc : ∀ I args tab z,call I args tab=some z→call' I args tab=some z) {o:Oper} {vs:List SV} {res:aH} {r0:Nat} {p:SV×Up} (h:cK E call o vs res r0 cI=some p):cK E call' o vs res r0 cI=some p:=by
 obtain⟨dst,op,ty,pos,after,guard⟩:=o
 cases op
 case call c =>
  obtain⟨callee,args,argTypes⟩:=c
  cases callee with
  | value f =>
   rcases vs with _ | ⟨v1,vs⟩
   ·cases h
   ·cases v1 with
    | fn g caps =>
     rcases vs with _ | ⟨v2,_ | ⟨v3,vs⟩⟩ <;> exact Ob hc h
    | _=>rcases vs with _ | ⟨v2,_ | ⟨v3,vs⟩⟩ <;> cases h
  | _=>rcases vs with _ | ⟨v1,_ | ⟨v2,_ | ⟨v3,vs⟩⟩⟩ <;> exact h
 case makeFunc fn first captured=>cases fn <;> rcases vs with _ | ⟨v1,_ | ⟨v2,_ | ⟨v3,vs⟩⟩⟩ <;> exact h
 all_goals rcases vs with _ | ⟨v1,_ | ⟨v2,_ | ⟨v3,_ | ⟨v4,vs⟩⟩⟩⟩ <;> exact h
theorem QE (hc : ∀ I args tab z,call I args tab=some z→call' I args tab=some z) {R R':Type} {K:SV→Up→Option R} {K':SV→Up→Option R'} {z:R} {z':R'} (hK : ∀ v u,K v u=some z→K' v u=some z') {o:Oper} {vs:List SV} {res:aH} {r0:Nat} (h:cK E call o vs res r0 K=some z):cK E call' o vs res r0 K'=some z':=by
 obtain⟨v,u,h1,h2⟩:=Bu h
 rw[Le,Tb hc h1]
 exact hK v u h2
theorem xm (hc : ∀ I args tab z,call I args tab=some z→call' I args tab=some z) {R:Type} {K K':St→Option R} {z:R} (hK : ∀ σ,K σ=some z→K' σ=some z) {all:Array Oper} {draw:Bool} {base:Nat} :
  ∀ {l:List (Nat×Oper)} {g:List Bt} {σ:St},cR E call all draw base l g σ K=some z→cR E call' all draw base l g σ K'=some z
 | [],g,σ,h=>by
  unfold cR at h ⊢
  cases draw with
  | false=>exact hK σ h
  | true =>
   simp only at h ⊢
   split at h
   ·rename_i h1 h2
    exact hK σ h
   ·cases h
 | (i,o) :: l,g,σ,h=>by
  have act : ∀(σ:St) (b:Bool),(match b with
   | true=>cK E call o ((ed o.op).map (ev σ.slots)) (g5 σ.res (mV o σ.res ((ed o.op).map (ev σ.slots)))) (base+64*i) fun v u=>match uK (base+64*i) (mV o σ.res ((ed o.op).map (ev σ.slots))) u with
    | true=>cR E call all draw base l ({i,see:=mV o σ.res ((ed o.op).map (ev σ.slots)),turn:=u.map (·.1)} :: g) (oM σ o.dst v u) K
    | false=>none
   | false=>cR E call all draw base l ({i,see:=[],turn:=[]} :: g) (oM σ o.dst (.tup []) []) K)=some z →
   (match b with
   | true=>cK E call' o ((ed o.op).map (ev σ.slots)) (g5 σ.res (mV o σ.res ((ed o.op).map (ev σ.slots)))) (base+64*i) fun v u=>match uK (base+64*i) (mV o σ.res ((ed o.op).map (ev σ.slots))) u with
    | true=>cR E call' all draw base l ({i,see:=mV o σ.res ((ed o.op).map (ev σ.slots)),turn:=u.map (·.1)} :: g) (oM σ o.dst v u) K'
    | false=>none
   | false=>cR E call' all draw base l ({i,see:=[],turn:=[]} :: g) (oM σ o.dst (.tup []) []) K')=some z:=by
   intro σ b h
   cases b with
   | true =>
    refine QE hc (fun v u hh => ?_) h
    split at hh
    ·exact xm hc hK hh
    ·cases hh
   | false=>exact xm hc hK h
  unfold cR at h ⊢
  dsimp only at h ⊢
  split at h
  ·exact act σ true h
  ·rename_i j want hg
   split at h
   ·rename_i d hd
    split at h
    ·split at h
     ·rename_i hx
      rw[if_pos hx]
      exact act {σ with slots:=dA σ.slots d (.val .bool true)} (true == want) h
     ·rename_i hx
      rw[if_neg hx]
      exact act {σ with slots:=dA σ.slots d (.val .bool false)} (false == want) h
    ·exact act σ false h
    ·cases h
   ·cases h
theorem EY (E:cO) : ∀ {k m:Nat},k≤m → ∀ {I:an} {R:Type} {K K':St→Option R} {c:Code} {S:List Fr} {σ:St} {z:R},(∀ σ,K σ=some z→K' σ=some z)→run E k I K c S σ=some z→run E m I K' c S σ=some z
 | 0,_,_,_,_,_,_,_,_,_,_,_,h=>by cases h
 | k+1,0,hle,_,_,_,_,_,_,_,_,_,_=>absurd hle (by omega)
 | k+1,m+1,hle,I,R,K,K',c,S,σ,z,hK,h=>by
  have ih : ∀ {I:an} {R:Type} {K K':St→Option R} {c:Code} {S:List Fr} {σ:St} {z:R},(∀ σ,K σ=some z→K' σ=some z)→run E k I K c S σ=some z→run E m I K' c S σ=some z:=fun hK h=>EY E (Nat.le_of_succ_le_succ hle) hK h
  have ihp : ∀ {S:List Fr} {σ:St},uL (run E k) I K S σ=some z→uL (run E m) I K' S σ=some z:=by
   intro S σ h
   cases S with
   | nil=>exact hK σ h
   | cons f S=>cases f <;> exact ih hK h
  have ihc : ∀ I args tab z,fj E (run E k) I args tab=some z→fj E (run E m) I args tab=some z:=fun I args tab z h=>by
   unfold fj at h ⊢
   split at h
   ·exact h
   ·exact ih (fun σ h=>h) h
  rw[oQ] at h ⊢
  unfold step at h ⊢
  split at h
  ·exact ihp h
  ·dsimp only at h ⊢
   exact xm ihc (fun σ' h'=>ihp h') h
  ·exact ih hK h
  ·split at h
   ·split at h
    ·rename_i hx
     rw[if_pos hx]
     exact ih hK h
    ·rename_i hx
     rw[if_neg hx]
     exact ih hK h
   ·cases h
  ·exact ih hK h
  ·exact ih hK h
  ·split at h
   ·exact ih hK h
   ·cases h
  ·exact hK σ h
  ·cases h
end
theorem Tc {E:cO} {k m:Nat} (hm:k≤m) {I:an} {args:List SV} {tab:aH} {z:I.sh.den×I.bx.den} (h:call E k I args tab=some z):call E m I args tab=some z:=by
 unfold call fj at h ⊢
 split at h
 ·exact h
 ·exact EY E hm (fun _ h=>h) h
end Go.Proofs.YtnodjiikdgmeaaaGreatDoor.Abs
namespace Go.Proofs.YtnodjiikdgmeaaaGreatDoor.Abs
open Go Go.RowKit
def Ev {R:Type} (f:Nat→Option R) (z:R):Prop := ∃ k0,∀ k,k0≤k→f k=some z
section
variable {R R':Type} {f:Nat→Option R} {z:R}
theorem Ev.now:Ev (fun _=>some z) z:=⟨0,fun _ _=>rfl⟩
theorem Ev.later (h:Ev f z) (c:Nat):Ev (fun k=>f (k+c)) z:=by
 obtain⟨k0,h⟩:=h
 exact⟨k0,fun k hk=>h _ (by omega)⟩
theorem Ev.eqn {g:Nat→Option R} (c:Nat) (he : ∀ k,f (k+c)=g k) (h:Ev g z):Ev f z:=by
 obtain⟨k0,h⟩:=h
 refine⟨k0+c,fun k hk => ?_⟩
 have:=he (k - c)
 rw[show k - c+c=k by omega] at this
 rw[this]
 exact h _ (by omega)
theorem Ev.bind {g:R→Nat→Option R'} {y:R'} (h:Ev f z) (k:Ev (g z) y):Ev (fun n=>(f n).bind fun x=>g x n) y:=by
 obtain⟨a,h⟩:=h
 obtain⟨b,k⟩:=k
 refine⟨a+b,fun n hn => ?_⟩
 show(f n).bind _=_
 rw[h n (by omega)]
 exact k n (by omega)
theorem Ev.ite {c:Prop} [Decidable c] {g:Nat→Option R} (h1:c→Ev f z) (h2 : ¬c→Ev g z):Ev (fun k=>if c then f k else g k) z:=by
 by_cases h:c
 ·obtain⟨k0,hk⟩:=h1 h
  exact⟨k0,fun k hh=>by simp only[if_pos h]; exact hk k hh⟩
 ·obtain⟨k0,hk⟩:=h2 h
  exact⟨k0,fun k hh=>by simp only[if_neg h]; exact hk k hh⟩
theorem Ev.pos {c:Prop} [Decidable c] {g:Nat→Option R} (hc:c) (h1:Ev f z):Ev (fun k=>if c then f k else g k) z:=Ev.ite (fun _=>h1) (fun h=>absurd hc h)
theorem Ev.neg {c:Prop} [Decidable c] {g:Nat→Option R} (hc : ¬c) (h1:Ev g z):Ev (fun k=>if c then f k else g k) z:=Ev.ite (fun h=>absurd h hc) (fun _=>h1)
end
def th (E:cO) (I:an) (args:List SV) (tab:aH) (z:I.sh.den×I.bx.den):Prop:=Ev (fun k=>call E k I args tab) z
theorem th.at_ {E:cO} {I:an} {args:List SV} {tab:aH} {z:I.sh.den×I.bx.den} (h:th E I args tab z) : ∃ k,call E k I args tab=some z:=by
 obtain⟨k,h⟩:=h
 exact⟨k,h k (Nat.le_refl _)⟩
theorem th.of {E:cO} {I:an} {args:List SV} {tab:aH} {z:I.sh.den×I.bx.den} {k:Nat} (h:call E k I args tab=some z):th E I args tab z :=
 ⟨k,fun m hm=>Tc hm h⟩
theorem th.calls {P:Program} {E:cO} {Gp:WP} (hst:F3 Gp) (hm:P.follows .mixedOrders=true) (hE:gf P E) (hP:xU Gp P E) {I:an} {args:List SV} {tab:aH} {z:I.sh.den×I.bx.den} (h:th E I args tab z) {key:Nat} (hg:dq E.fns key=some I) (hcanon : ∀(k:Nat) (p:Nat×aY),tab[k]? = some p→p.1=k)
  {w:World} {γ:Nat→Option G} {Pr:Nat→Nat→Prop} {us:List Value} (hGp:Gp w (nH tab γ)) (hI:bm w (nH tab γ) Pr args (az tab) γ Pr {tmps:=us.toArray,defers:=[]} w) (hlim : ∀ r,tab.length≤r→γ r=none) {N:Nat} (hN:tab.length≤N) {vs bs:List SV} {u u':Up} {n n':Nat} {ub:List (Option aY)}
  (h1:bU I.sh z.1 N=(vs,u,n)) (h2:bU I.bx z.2 n=(bs,u',n')) (h3:cH I.rb tab bs (rP I.bx)=some ub) :
  Calls P I.g us.toArray w fun e w' => ∃ vals γr Pr',e = .returned (BC vals)∧zB w (nH tab γ) γ Pr N n' vs ub (u++u') vals γr Pr' w' ∧ ∀ p∈dN I.rb tab bs,γr p.1=γ p.2:=by
 obtain⟨k,hk⟩:=h.at_
 exact S8 hst hm hE hP k I args tab z key hg hk hcanon w γ Pr us hGp hI hlim N hN vs u n bs u' n' ub h1 h2 h3
end Go.Proofs.YtnodjiikdgmeaaaGreatDoor.Abs
namespace Go.Proofs.YtnodjiikdgmeaaaGreatDoor.Abs
open Go
def kids:Code→List Code
 | .seq a b=>[a,b]
 | .cond _ a b=>[a,b]
 | .block _ a=>[a]
 | .loop a=>[a]
 | _=>[]
def at_:Code→List Nat→Code
 | c,[]=>c
 | c,i :: l=>match kids c,i with
  | a :: _,0=>at_ a l
  | [_,b],1=>at_ b l
  | _,_ => .skip
instance (t:Ty):Inhabited t.den:=⟨t.dflt⟩
def fm (e:TypeId) (t:Ty) (nb:Nat):List SV→aH→Option ((Sh.pair (.row e t false) .unit).den×Sh.unit.den)
 | [.val s xs],[]=>(kP? (t:=s) (.slice e t) xs).bind fun xs=>if(xs:List t.den).length*nb≤140737488355328 then some ((xs,()),()) else none
 | _,_=>none
def dr (n:Int):ByteArray:=⟨(Lib.itoa n).toArray⟩
def C5:List SV→aH→Option ((Sh.pair (.val .str) .unit).den×Sh.unit.den)
 | [.val (.int .i64) n,.val (.int .i64) b],[]=>if(b:Int)=10 ∧ -9223372036854775808≤(n:Int)∧(n:Int)≤9223372036854775807 then some ((dr n,()),()) else none
 | _,_=>none
def uU (c:ByteArray):Bool:=decide (c.size≤1000) && c.data.toList.all fun b=>decide (b.toNat < 128)
def pV:List SV→aH→Option ((Sh.pair (.val .str) .unit).den×Sh.unit.den)
 | [.val .str s,.val .str c],[]=>if uU c=true then some ((⟨(Lib.trimLeftS (s:ByteArray).data.toList (c:ByteArray).data.toList).toArray⟩,()),()) else none
 | _,_=>none
def zF:List SV→aH→Option ((Sh.pair (.val .str) .unit).den×Sh.unit.den)
 | [.val .str s,.val .str c],[]=>if uU c=true∧(s:ByteArray).size≤9223372036854775807 then some ((⟨(Lib.trimS (s:ByteArray).data.toList (c:ByteArray).data.toList).toArray⟩,()),()) else none
 | _,_=>none
def C6:List SV→aH→Option ((Sh.pair (.val .str) (.pair (.val .str) (.pair (.val .bool) .unit))).den×Sh.unit.den)
 | [.val .str s,.val .str c],[]=>if(s:ByteArray).size < 4294967281 then some ((⟨(Lib.cut (s:ByteArray).data.toList (c:ByteArray).data.toList).1.toArray⟩,⟨(Lib.cut (s:ByteArray).data.toList (c:ByteArray).data.toList).2.1.toArray⟩,(Lib.cut (s:ByteArray).data.toList (c:ByteArray).data.toList).2.2,()),()) else none
 | _,_=>none
def rV:List SV→aH→Option ((Sh.pair (.val .str) .unit).den×Sh.unit.den)
 | [.val .str s,.val .str a,.val .str b],[]=>if(s:ByteArray).size < 4294967281∧1≤(a:ByteArray).size∧(s:ByteArray).size+Lib.countB s a*(b:ByteArray).size≤140737488355328 then some ((⟨(Lib.replaceAll (s:ByteArray).data.toList (a:ByteArray).data.toList (b:ByteArray).data.toList).toArray⟩,()),()) else none
 | _,_=>none
def zG (e:TypeId):List SV→aH→Option ((Sh.pair (.val .str) .unit).den×Sh.unit.den)
 | [.val t xs,.val .str c],[]=>(kP? (t:=t) (.slice e .str) xs).bind fun xs=>if(xs:List ByteArray).length≤140737488355328∧(Lib.join ((xs:List ByteArray).map (·.data.toList)) (c:ByteArray).data.toList).length≤140737488355328 then some ((⟨(Lib.join ((xs:List ByteArray).map (·.data.toList)) (c:ByteArray).data.toList).toArray⟩,()),()) else none
 | _,_=>none
def cl (l:List UInt8):Int×Bool:=match Lib.parseIntB 64 l with
 | .ok v=>(v,true)
 | .range=>(Lib.intSat 64 l,false)
 | _=>(0,false)
def pW:List SV→aH→Option ((Sh.pair (.val (.int .i64)) (.pair (.val .err) .unit)).den×Sh.unit.den)
 | [.val .str s,.val (.int .i64) b,.val (.int .i64) n],[]=>if(s:ByteArray).size≤281474976710656∧(b:Int)=10∧(n:Int)=64 then some (((cl (s:ByteArray).data.toList).1,(cl (s:ByteArray).data.toList).2,()),()) else none
 | _,_=>none
open Go Go.RowKit
theorem Ev.uniq {R:Type} {f:Nat→Option R} {z z':R} (h:Ev f z) (h':Ev f z'):z=z':=by
 obtain⟨a,h⟩:=h
 obtain⟨b,h'⟩:=h'
 have h1:=h (a+b) (by omega)
 rw[h' (a+b) (by omega)] at h1
 exact(Option.some.inj h1).symm
open Classical in
noncomputable def lim {R:Type} (f:Nat→Option R):Option R:=if h : ∃ z,Ev f z then some h.choose else none
theorem Vo {R:Type} {f:Nat→Option R} {z:R}:lim f=some z↔Ev f z:=by
 unfold lim
 constructor
 ·intro h
  split at h
  ·rename_i hz
   have:=hz.choose_spec
   rw[Option.some.inj h] at this
   exact this
  ·cases h
 ·intro h
  have hz : ∃ z,Ev f z:=⟨z,h⟩
  rw[dif_pos hz,hz.choose_spec.uniq h]
noncomputable def aE (E:cO):nN:=fun I _ K c S σ=>lim fun k=>run E k I K c S σ
theorem wa {E:cO} {I:an} {R:Type} {K:St→Option R} {c:Code} {S:List Fr} {σ:St} {z:R}:aE E I K c S σ=some z ↔ ∃ k,∀ m,k≤m→run E m I K c S σ=some z:=Vo
theorem Pj {E:cO} {I:an} {R:Type} {K:St→Option R} {c:Code} {S:List Fr} {σ:St} {z:R} {k:Nat} (h:run E k I K c S σ=some z):aE E I K c S σ=some z :=
 wa.2 ⟨k,fun m hm=>EY E hm (fun _ h=>h) h⟩
section
variable {E:cO} {call:(I:an)→List SV→aH→Option (I.sh.den×I.bx.den)} {call':Nat→(I:an)→List SV→aH→Option (I.sh.den×I.bx.den)}
theorem uV (hc : ∀ I args tab z,call I args tab=some z → ∃ k,∀ m,k≤m→call' m I args tab=some z) {g key:Nat} {args:List SV} {res:aH} {r0:Nat} {p:SV×Up} (h:gR E call g key args res r0 cI=some p) : ∃ k,∀ m,k≤m→gR E (call' m) g key args res r0 cI=some p:=by
 unfold gR at h ⊢
 cases hI:dq E.fns key with
 | none=>rw[hI] at h; cases h
 | some I =>
  simp only[hI] at h ⊢
  cases hg:Nat.beq I.g g with
  | false=>rw[hg] at h; cases h
  | true =>
   simp only[hg] at h ⊢
   cases hv:uI res (I.fn.params.toList.map fun T=>dq E.ty T) I.own args with
   | none=>rw[hv] at h; cases h
   | some q =>
    obtain⟨args',fr⟩:=q
    simp only[hv] at h ⊢
    split at h
    ·rename_i h1 h2 h3
     rw[Option.bind_eq_some_iff] at h
     obtain⟨z,hz,h⟩:=h
     obtain⟨k,hk⟩:=hc _ _ _ _ hz
     refine⟨k,fun m hm => ?_⟩
     rw[Option.bind_eq_some_iff]
     exact⟨z,hk m hm,h⟩
    ·cases h
theorem Oc (hc : ∀ I args tab z,call I args tab=some z → ∃ k,∀ m,k≤m→call' m I args tab=some z) {g:Nat} {args:List SV} {res:aH} {r0:Nat} {p:SV×Up} (h:jA E call g args res r0 cI=some p) : ∃ k,∀ m,k≤m→jA E (call' m) g args res r0 cI=some p:=by
 unfold jA at h ⊢
 split at h
 ·exact uV hc h
 ·rename_i s hs
  rw[Option.bind_eq_some_iff] at h
  obtain⟨b,hb,h⟩:=h
  split at h
  ·rename_i hb'
   obtain⟨k,hk⟩:=uV hc h
   refine⟨k,fun m hm => ?_⟩
   rw[Option.bind_eq_some_iff]
   refine⟨b,hb,?_⟩
   rw[if_pos hb']
   exact hk m hm
  ·rename_i hb'
   obtain⟨k,hk⟩:=uV hc h
   refine⟨k,fun m hm => ?_⟩
   rw[Option.bind_eq_some_iff]
   refine⟨b,hb,?_⟩
   rw[if_neg hb']
   exact hk m hm
theorem Td (hc : ∀ I args tab z,call I args tab=some z → ∃ k,∀ m,k≤m→call' m I args tab=some z) {o:Oper} {vs:List SV} {res:aH} {r0:Nat} {p:SV×Up} (h:cK E call o vs res r0 cI=some p) : ∃ k,∀ m,k≤m→cK E (call' m) o vs res r0 cI=some p:=by
 obtain⟨dst,op,ty,pos,after,guard⟩:=o
 cases op
 case call c =>
  obtain⟨callee,args,argTypes⟩:=c
  cases callee with
  | value f =>
   rcases vs with _ | ⟨v1,vs⟩
   ·cases h
   ·cases v1 with
    | fn g caps =>
     rcases vs with _ | ⟨v2,_ | ⟨v3,vs⟩⟩ <;> exact Oc hc h
    | _=>rcases vs with _ | ⟨v2,_ | ⟨v3,vs⟩⟩ <;> cases h
  | _=>rcases vs with _ | ⟨v1,_ | ⟨v2,_ | ⟨v3,vs⟩⟩⟩ <;> exact⟨0,fun _ _=>h⟩
 case makeFunc fn first captured=>cases fn <;> rcases vs with _ | ⟨v1,_ | ⟨v2,_ | ⟨v3,vs⟩⟩⟩ <;> exact⟨0,fun _ _=>h⟩
 all_goals rcases vs with _ | ⟨v1,_ | ⟨v2,_ | ⟨v3,_ | ⟨v4,vs⟩⟩⟩⟩ <;> exact⟨0,fun _ _=>h⟩
def QF (E:cO) (call:(I:an)→List SV→aH→Option (I.sh.den×I.bx.den)) {R:Type} (all:Array Oper) (draw:Bool) (base i:Nat) (o:Oper) (l:List (Nat×Oper)) (g:List Bt) (K:St→Option R) (σ:St) (b:Bool):Option R:=match b with
 | true=>cK E call o ((ed o.op).map (ev σ.slots)) (g5 σ.res (mV o σ.res ((ed o.op).map (ev σ.slots)))) (base+64*i) fun v u=>match uK (base+64*i) (mV o σ.res ((ed o.op).map (ev σ.slots))) u with
  | true=>cR E call all draw base l ({i,see:=mV o σ.res ((ed o.op).map (ev σ.slots)),turn:=u.map (·.1)} :: g) (oM σ o.dst v u) K
  | false=>none
 | false=>cR E call all draw base l ({i,see:=[],turn:=[]} :: g) (oM σ o.dst (.tup []) []) K
theorem xn (hc : ∀ I args tab z,call I args tab=some z → ∃ k,∀ m,k≤m→call' m I args tab=some z) {R:Type} {K:St→Option R} {K':Nat→St→Option R} {z:R} (hK : ∀ σ,K σ=some z → ∃ k,∀ m,k≤m→K' m σ=some z) {all:Array Oper} {draw:Bool} {base:Nat} :
  ∀ {l:List (Nat×Oper)} {g:List Bt} {σ:St},cR E call all draw base l g σ K=some z → ∃ k,∀ m,k≤m→cR E (call' m) all draw base l g σ (K' m)=some z
 | [],g,σ,h=>by
  unfold cR at h ⊢
  cases draw with
  | false=>exact hK σ h
  | true =>
   simp only at h ⊢
   split at h
   ·rename_i h1 h2
    exact hK σ h
   ·cases h
 | (i,o) :: l,g,σ,h=>by
  have act : ∀(σ:St) (b:Bool),QF E call all draw base i o l g K σ b=some z → ∃ k,∀ m,k≤m→QF E (call' m) all draw base i o l g (K' m) σ b=some z:=by
   unfold QF
   intro σ b h
   cases b with
   | true =>
    obtain⟨v,u,h1,h2⟩:=Bu h
    obtain⟨k1,hk1⟩:=Td hc h1
    split at h2
    ·rename_i hs
     obtain⟨k2,hk2⟩:=xn hc hK h2
     refine⟨k1+k2,fun m hm => ?_⟩
     rw[Le,hk1 m (by omega)]
     simp only[Option.bind_some,hs]
     exact hk2 m (by omega)
    ·cases h2
   | false=>exact xn hc hK h
  unfold cR at h
  simp only[cR]
  dsimp only at h ⊢
  split at h
  ·exact act σ true h
  ·rename_i j want hg
   split at h
   ·rename_i d hd
    split at h
    ·split at h
     ·rename_i hx
      simp only[if_pos hx]
      exact act {σ with slots:=dA σ.slots d (.val .bool true)} (true == want) h
     ·rename_i hx
      simp only[if_neg hx]
      exact act {σ with slots:=dA σ.slots d (.val .bool false)} (false == want) h
    ·exact act σ false h
    ·cases h
   ·cases h
theorem Jc {rec:nN} {rec':Nat→nN} {I:an} {R:Type} {K:St→Option R} (hr : ∀(I:an) (R:Type) (K:St→Option R) c S σ z,rec I K c S σ=some z → ∃ k,∀ m,k≤m→rec' m I K c S σ=some z) {c:Code} {S:List Fr} {σ:St} {z:R} (h:step E rec I K c S σ=some z) : ∃ k,∀ m,k≤m→step E (rec' m) I K c S σ=some z:=by
 have ihp : ∀ {S:List Fr} {σ:St},uL rec I K S σ=some z → ∃ k,∀ m,k≤m→uL (rec' m) I K S σ=some z:=by
  intro S σ h
  cases S with
  | nil=>exact⟨0,fun _ _=>h⟩
  | cons f S=>cases f <;> exact hr _ _ _ _ _ _ _ h
 have ihc : ∀ I args tab z,fj E rec I args tab=some z → ∃ k,∀ m,k≤m→fj E (rec' m) I args tab=some z:=fun I args tab z h=>by
  unfold fj at h ⊢
  split at h
  ·exact⟨0,fun _ _=>h⟩
  ·exact hr _ _ _ _ _ _ _ h
 unfold step at h ⊢
 split at h
 ·exact ihp h
 ·dsimp only at h ⊢
  exact xn ihc (K':=fun m σ'=>uL (rec' m) I K S {σ' with nx:=_}) (fun σ' h'=>ihp h') h
 ·exact hr _ _ _ _ _ _ _ h
 ·split at h
  ·split at h
   ·rename_i hx
    simp only[if_pos hx]
    exact hr _ _ _ _ _ _ _ h
   ·rename_i hx
    simp only[if_neg hx]
    exact hr _ _ _ _ _ _ _ h
  ·cases h
 ·exact hr _ _ _ _ _ _ _ h
 ·exact hr _ _ _ _ _ _ _ h
 ·split at h
  ·exact hr _ _ _ _ _ _ _ h
  ·cases h
 ·exact⟨0,fun _ _=>h⟩
 ·cases h
end
theorem Vp {E:cO} {I:an} {R:Type} {K:St→Option R} {c:Code} {S:List Fr} {σ:St}:aE E I K c S σ=step E (aE E) I K c S σ:=by
 refine Option.ext fun z=>⟨fun h => ?_,fun h => ?_⟩
 ·obtain⟨k,hk⟩:=wa.1 h
  have h1:=hk (k+1) (by omega)
  rw[oQ] at h1
  obtain⟨_,h2⟩:=Jc (rec':=fun _=>aE E) (fun _ _ _ _ _ _ _ h=>⟨0,fun _ _=>Pj h⟩) h1
  exact h2 _ (Nat.le_refl _)
 ·obtain⟨k,hk⟩:=Jc (rec':=fun m=>run E m) (fun _ _ _ _ _ _ _ h=>wa.1 h) h
  exact Pj (k:=k+1) (by rw[oQ]; exact hk k (Nat.le_refl _))
def Te (E:cO) (rc rec:nN) (I:an) {R:Type} (K:St→Option R) (c:Code) (S:List Fr) (σ:St):Option R:=match c with
 | .region id ops draw=>cR {E with sub:=I.sub} (fj E rc) ops draw σ.nx ((List.range ops.size).zip ops.toList) [] σ fun σ'=>uL rec I K S {σ' with nx:=σ.nx+64*ops.size}
 | _=>none
theorem WR : ∃ f:(E:cO)→(rc:nN)→(I:an)→(R:Type)→(St→Option R)→Code→List Fr→St→Option R,∀ E rc I R K c S σ,f E rc I R K c S σ=Te E rc rc I K c S σ :=
 ⟨fun E rc I R K c S σ=>Te E rc rc I K c S σ,fun _ _ _ _ _ _ _ _=>rfl⟩
noncomputable def pt (E:cO) (rc:nN) (I:an) {R:Type} (K:St→Option R) (c:Code) (S:List Fr) (σ:St):Option R:=Classical.choose WR E rc I R K c S σ
theorem WS {E:cO} {rc:nN} {I:an} {R:Type} {K:St→Option R} {c:Code} {S:List Fr} {σ:St}:pt E rc I K c S σ=Te E rc rc I K c S σ:=Classical.choose_spec WR E rc I R K c S σ
noncomputable def KQ (E:cO) (rc rec:nN):nN:=fun I _ K c S σ=>match c with
 | .skip=>uL rec I K S σ
 | .region id ops draw=>match dq I.live id with
  | some l=>pt E rc I K (.region id ops draw) S (norm l σ)
  | none=>Te E rc rec I K (.region id ops draw) S σ
 | .seq a b=>rec I K a (.seq b :: S) σ
 | .cond c a b=>match ev σ.slots c with
  | .val .bool x=>if x=true then rec I K a S σ else rec I K b S σ
  | _=>none
 | .block id b=>rec I K b (.block id :: S) σ
 | .loop b=>rec I K b (.loop b :: S) σ
 | .exit id=>match zu I id S with | some S'=>rec I K .skip S' σ | none=>none
 | .ret=>K σ
 | _=>none
noncomputable def KR (E:cO) (rc:nN) (n:Nat):nN:=Nat.rec rc (fun _ rec=>KQ E rc rec) n
theorem Vq {E:cO}:KQ E (aE E) (aE E)=aE E:=by
 funext I R K c S σ
 rw[Vp]
 unfold KQ step
 cases c <;> try rfl
 rename_i id ops draw
 dsimp only
 cases dq I.live id with
 | none=>rfl
 | some l=>exact WS
theorem EZ {E:cO} : ∀ n,KR E (aE E) n=aE E
 | 0=>rfl
 | n+1=>by
  show KQ E (aE E) (KR E (aE E) n)=_
  rw[EZ n,Vq]
noncomputable def ah (E:cO) (I:an) (args:List SV) (tab:aH):Option (I.sh.den×I.bx.den):=fj E (aE E) I args tab
theorem aq {E:cO} {I:an} {args:List SV} {tab:aH} {z:Option (I.sh.den×I.bx.den)} (h:fj E (KR E (aE E) 4000) I args tab=z):ah E I args tab=z:=by
 rw[←h,EZ]
 rfl
theorem bn {E:cO} {I:an} {R:Type} {K:St→Option R} {c:Code} {S:List Fr} {σ:St} {z:Option R} (h:Te E (aE E) (KR E (aE E) 4000) I K c S σ=z):pt E (aE E) I K c S σ=z:=by
 rw[←h,EZ]
 exact WS
theorem th.ofL {E:cO} {I:an} {args:List SV} {tab:aH} {z:I.sh.den×I.bx.den} (h:ah E I args tab=some z):th E I args tab z:=by
 unfold ah fj at h
 unfold th call fj
 split at h
 ·exact⟨0,fun _ _=>h⟩
 ·exact wa.1 h
end Go.Proofs.YtnodjiikdgmeaaaGreatDoor.Abs
namespace Go.Proofs.YtnodjiikdgmeaaaGreatDoor.Abs
open Go
section
variable {α β:Type}
def ix (xs:List α) (i:Int) (d:α) (f:α→Option β):Option β:=if 0≤i then(if i < (xs.length:Int) then f (xs.getD i.toNat d) else none) else none
def inb (xs:List α) (i:Int) (k:Option β):Option β:=if 0≤i then(if i < (xs.length:Int) then k else none) else none
def eF (s:ByteArray) (i:Int) (f:Int→Option β):Option β:=if 0≤i then(if i < (s.size:Int) then f (bt s i) else none) else none
def D1 (n:Int) (b:Nat) (d:α) (f:List α→Option β):Option β:=if 0≤n then(if n.toNat*b≤140737488355328 then f (List.replicate n.toNat d) else none) else none
def cats (a b:ByteArray) (f:ByteArray→Option β):Option β:=if a.size+b.size≤9223372036854775807 then f (a++b) else none
def app (a b:List α) (n:Nat) (f:List α→Option β):Option β:=if(a.length+b.length)*n≤140737488355328 then f (a++b) else none
def D2 (s:ByteArray) (h:Int) (f:ByteArray→Option β):Option β:=if 0≤h then(if h≤(s.size:Int) then f (s.extract 0 h.toNat) else none) else none
def iT (s:ByteArray) (l:Int) (f:ByteArray→Option β):Option β:=if 0≤l then(if l≤(s.size:Int) then f (s.extract l.toNat s.size) else none) else none
def wb (s:ByteArray) (l h:Int) (f:ByteArray→Option β):Option β:=if 0≤h then(if h≤(s.size:Int) then(if 0≤l then(if l≤h then f (s.extract l.toNat h.toNat) else none) else none) else none) else none
def WT (xs:List α) (h:Int) (f:List α→Option β):Option β:=if 0≤h then(if h≤(xs.length:Int) then f (xs.take h.toNat) else none) else none
def Pk (xs:List α) (l:Int) (f:List α→Option β):Option β:=if 0≤l then(if l≤(xs.length:Int) then f (xs.drop l.toNat) else none) else none
def tj (d:α) (xs:List α) (i:Int) (f:α→α) (k:List α→β):β:=k (xs.set i.toNat (f (xs.getD i.toNat d)))
def nz (b:Int) (k:Option β):Option β:=if b=0 then none else k
end
theorem wr {n:Int} (h0 : -9223372036854775808≤n) (h1:n≤9223372036854775807):IntKind.i64.wrap n=n:=by
 simp only[IntKind.wrap,IntKind.bits,IntKind.signed]
 simp
 omega
theorem toList_inj {a b:ByteArray} (h:a.toList=b.toList):a=b:=by
 rw[ByteArray.toList_eq,ByteArray.toList_eq] at h
 cases a
 cases b
 congr
 exact Array.toList_inj.1 h
@[simp] theorem AV {a b:ByteArray}:(ByteArray.toList a == ByteArray.toList b)=decide (a=b):=by
 by_cases h:a=b
 ·subst h
  simp
 ·rw[decide_eq_false h]
  have:ByteArray.toList a≠ByteArray.toList b:=fun e=>h (toList_inj e)
  simpa using this
def Jd (a b:ByteArray):Bool:=Op.bytesLess (ByteArray.toList a) (ByteArray.toList b)
theorem uz {α:Type} {l r:List α} {y d:α}:List.getD (l++y :: r) (Int.toNat (l.length:Int)) d=y:=by
 simp[List.getD_eq_getElem?_getD]
theorem LJ {α:Type} {l r:List α} {y z:α}:List.set (l++y :: r) (Int.toNat (l.length:Int)) z=l++z :: r:=by
 simp
theorem Vr {α:Type} {l:List α} {y:α}:((l.length:Nat):Int)+1=((l++[y]).length:Int):=by simp
theorem LK {α:Type} {l r:List α} {y:α}:((l.length:Nat):Int) < ((l++y :: r).length:Int):=by
 simp only[List.length_append,List.length_cons]
 omega
theorem KS {n:Nat} (h:n≤4398046511104):n*32≤140737488355328:=Nat.le_trans (Nat.mul_le_mul_right 32 h) (by decide)
theorem nn (n:Nat):(0:Int)≤(n:Int):=Int.natCast_nonneg n
theorem Ev.val {R:Type} {x z:R} (h:x=z):Ev (fun _=>some x) z:=h ▸ Ev.now
open Go Go.RowKit Go.ChangeShapes Go.WideShapes
def AW:(t:Ty)→t.den→Prop
 | .int k,n=>(Lit.int k n).wf=true
 | .bool,_=>True
 | .err,_=>True
 | .fn,_=>True
 | .pt,_=>True
 | .str,s=>(s:ByteArray).size≤maxLen
 | .unit,_=>True
 | .pair a b,x=>AW a x.1∧AW b x.2
 | .agg t,x=>AW t x
 | .slice _ t,xs=>(xs:List t.den).length≤maxLen ∧ ∀ x∈(xs:List t.den),AW t x
def Gf (P:Program) (g:TypeId→Ty→Bool):List Field→Ty→Nat→Bool
 | [],.unit,_=>true
 | f :: fs,.pair a b,o=>Nat.beq f.offset o && Nat.beq (P.cellsOf f.type) a.sz && g f.type a && Gf P g fs b (o+a.sz)
 | _,_,_=>false
def ik (P:Program):Nat→TypeId→Ty→Bool
 | 0,_,_=>false
 | _+1,T,.int k=>match P.underlying T with | some (.int k')=>decide (k'=k) | _=>false
 | _+1,T,.bool=>match P.underlying T with | some .bool=>true | _=>false
 | _+1,T,.str=>match P.underlying T with | some .string=>true | _=>false
 | d+1,T,.slice e t=>match P.underlying T with | some (.slice e')=>Nat.beq e' e && Nat.beq (P.cellsOf e) t.sz && Nat.blt 0 t.sz && ik P d e t | _=>false
 | d+1,T,.agg t=>match P.underlying T with
  | some (.struct fs)=>Nat.beq (P.cellsOf T) t.sz && Gf P (ik P d) fs.toList t 0
  | _=>false
 | _,_,_=>false
theorem Je {α:Type} {Q:Nat→α→Prop} : ∀(n:Nat),(∀ i,i < n → ∃ y,Q i y) → ∃ ys:List α,ys.length=n ∧ ∀ i (h:i < ys.length),Q i ys[i]
 | 0,_=>⟨[],rfl,fun i h=>by simp at h⟩
 | n+1,h=>by
  obtain⟨ys,h1,h2⟩:=Je n (fun i hi=>h i (by omega))
  obtain⟨y,hy⟩:=h n (by omega)
  refine⟨ys++[y],by simp[h1],fun i hi => ?_⟩
  by_cases hin:i < ys.length
  ·rw[List.getElem_append_left hin]
   exact h2 i hin
  ·rw[List.length_append,List.length_singleton] at hi
   have:i=n:=by omega
   subst this
   rw[List.getElem_append_right (by omega)]
   simpa[h1] using hy
section
variable {H:Type} {enc:TypeId×Value→H} {P:Program} {w:World} {base:Nat} {sp:Nat→Bool} {held:Bool}
theorem LL {g:TypeId→Ty→Bool} {n:Nat} (hg : ∀ T t,g T t=true → ∀ cs x,DataW.trod enc P w base sp held n T cs=some x → ∃ y:t.den,RK (DW w) t y cs∧AW t y) :
  ∀ {fs:List Field} {t:Ty} {o:Nat} {cs:List Value},Gf P g fs t o=true→cs.length=o+t.sz→(∀ f∈fs,∃ x,DataW.trod enc P w base sp held n f.type ((cs.drop f.offset).take (P.cellsOf f.type))=some x) → ∃ y:t.den,RK (DW w) t y (cs.drop o)∧AW t y
 | [],.unit,o,cs,_,hl,_=>⟨(),by
   show cs.drop o=[]
   exact List.drop_eq_nil_of_le (by rw[hl]; exact Nat.le_refl _),trivial⟩
 | f :: fs,.pair a b,o,cs,h,hl,hf=>by
  simp only[Gf,Bool.and_eq_true] at h
  obtain⟨⟨⟨h1,h2⟩,h3⟩,h4⟩:=h
  have h1:=Nat.eq_of_beq_eq_true h1
  have h2:=Nat.eq_of_beq_eq_true h2
  obtain⟨x,hx⟩:=hf f (by simp)
  rw[h1,h2] at hx
  obtain⟨y1,k1,m1⟩:=hg f.type a h3 _ _ hx
  have hl':cs.length=o+a.sz+b.sz:=by
   rw[hl,Nat.add_assoc]
   rfl
  obtain⟨y2,k2,m2⟩:=LL hg (fs:=fs) (t:=b) (o:=o+a.sz) (cs:=cs) h4 hl' (fun f hf'=>hf f (List.mem_cons_of_mem _ hf'))
  refine⟨(y1,y2),⟨(cs.drop o).take a.sz,cs.drop (o+a.sz),?_,k1,k2⟩,m1,m2⟩
  rw[←List.drop_drop,List.take_append_drop]
 | [],.int _,_,_,h,_,_=>by cases h
 | [],.bool,_,_,h,_,_=>by cases h
 | [],.err,_,_,h,_,_=>by cases h
 | [],.fn,_,_,h,_,_=>by cases h
 | [],.pt,_,_,h,_,_=>by cases h
 | [],.str,_,_,h,_,_=>by cases h
 | [],.pair _ _,_,_,h,_,_=>by cases h
 | [],.agg _,_,_,h,_,_=>by cases h
 | [],.slice _ _,_,_,h,_,_=>by cases h
 | _ :: _,.int _,_,_,h,_,_=>by cases h
 | _ :: _,.bool,_,_,h,_,_=>by cases h
 | _ :: _,.err,_,_,h,_,_=>by cases h
 | _ :: _,.fn,_,_,h,_,_=>by cases h
 | _ :: _,.pt,_,_,h,_,_=>by cases h
 | _ :: _,.str,_,_,h,_,_=>by cases h
 | _ :: _,.unit,_,_,h,_,_=>by cases h
 | _ :: _,.agg _,_,_,h,_,_=>by cases h
 | _ :: _,.slice _ _,_,_,h,_,_=>by cases h
theorem HS : ∀(d:Nat) (T:TypeId) (t:Ty),ik P d T t=true → ∀(fuel:Nat) (cs:List Value) (x:DataW H×List MemPlace),DataW.trod enc P w base sp held fuel T cs=some x → ∃ y:t.den,RK (DW w) t y cs∧AW t y
 | 0,_,_,h,_,_,_,_=>by simp[ik] at h
 | d+1,T,.int k,h,fuel,cs,x,hx=>by
  unfold ik at h
  split at h
  ·rename_i k' hu
   have:=of_decide_eq_true h
   subst this
   obtain⟨n,rfl,_,hw⟩:=DataW.trod_int hu hx
   exact⟨n,rfl,hw⟩
  ·cases h
 | d+1,T,.bool,h,fuel,cs,x,hx=>by
  unfold ik at h
  split at h
  ·rename_i hu
   obtain⟨b,rfl,_⟩:=DataW.trod_bool hu hx
   exact⟨b,rfl,trivial⟩
  ·cases h
 | d+1,T,.str,h,fuel,cs,x,hx=>by
  unfold ik at h
  split at h
  ·rename_i hu
   obtain⟨s,rfl,_,hw⟩:=DataW.trod_string hu hx
   exact⟨s,rfl,hw⟩
  ·cases h
 | d+1,T,.slice e t,h,fuel,cs,x,hx=>by
  unfold ik at h
  split at h
  ·rename_i e' hu
   simp only[Bool.and_eq_true] at h
   obtain⟨⟨⟨h1,h2⟩,h3⟩,h4⟩:=h
   have h1:=Nat.eq_of_beq_eq_true h1
   subst h1
   have h2:=Nat.eq_of_beq_eq_true h2
   have h3:0 < t.sz:=by simpa[Nat.blt_eq] using h3
   rcases DataW.trod_slice hu hx with⟨rfl,_⟩ | ⟨a,len,cap,elems,rest,n,rfl,rfl,rfl,hb,hle,hmax,hlen,hel,_⟩
   ·exact⟨([]:List t.den),⟨none,0,rfl,Nat.le_refl _,fun h=>absurd rfl h⟩,Nat.zero_le _,fun x hx=>by cases hx⟩
   ·have each : ∀ i,i < len → ∃ y:t.den,AW t y ∧ ∃ c,RK (DW w) t y c∧c.length=t.sz ∧ ∀ j,j < t.sz→w.cell? ((a.add (i*t.sz)).add j)=c[j]? := by
     intro i hi
     have h5:=hel i hi
     rw[List.getElem?_eq_getElem (by omega),Option.bind_eq_some_iff,h2] at h5
     obtain⟨c,h6,h7⟩:=h5
     obtain⟨_,h8,h9⟩:=World.cells?_some h6
     obtain⟨y,h10,h11⟩:=HS d e' t h4 _ _ _ h7
     exact⟨y,h11,c,h10,h8,h9⟩
    obtain⟨ys,hyl,hy⟩:=Je len each
    have hyl':len=ys.length:=hyl.symm
    subst hyl'
    refine⟨ys,⟨some a,cap,rfl,hle,fun hne => ?_⟩,Nat.le_trans hle hmax,fun y hyy => ?_⟩
    ·have hpos:0 < ys.length:=by
      cases ys with
      | nil=>exact absurd rfl hne
      | cons _ _=>simp
     obtain⟨_,c0,_,hcl,hcc⟩:=hy 0 hpos
     have hsp:a.spot=none:=by
      have:=hcc 0 h3
      rw[List.getElem?_eq_getElem (by omega)] at this
      unfold World.cell? at this
      split at this
      ·cases hs:a.spot with
       | none=>rfl
       | some z =>
        simp[Addr.add,hs] at this
      ·cases this
     obtain⟨b,o,s⟩:=a
     simp only at hsp
     subst hsp
     refine⟨b,o,rfl,fun i hi => ?_⟩
     obtain⟨_,c,k1,k2,k3⟩:=hy i hi
     refine⟨c,k1,fun j v hj=>⟨trivial,?_⟩⟩
     have hjl:j < t.sz:=by
      rw[←k2]
      exact(List.getElem?_eq_some_iff.1 hj).1
     have:=k3 j hjl
     rw[hj,iA,iA] at this
     exact this
    ·obtain⟨i,hi,he⟩:=List.getElem_of_mem hyy
     rw[←he]
     exact(hy i hi).1
  ·cases h
 | d+1,T,.agg t,h,fuel,cs,x,hx=>by
  unfold ik at h
  split at h
  ·rename_i fs hu
   simp only[Bool.and_eq_true] at h
   have h1:=Nat.eq_of_beq_eq_true h.1
   obtain⟨xs,n,rfl,rfl,hl,hxl,hf⟩:=DataW.trod_struct hu hx
   have:=LL (g:=ik P d) (n:=n) (fun T t hT cs x hx=>HS d T t hT n cs x hx) (cs:=cs) h.2 (by rw[hl,h1,Nat.zero_add]) (fun f hfm=>by
    obtain⟨i,hi,he⟩:=List.getElem_of_mem hfm
    have hi':i < fs.size:=by simpa using hi
    have:=hf i f (by rw[Array.getElem?_eq_getElem hi']; simpa using he)
    rw[List.getElem?_eq_getElem (by omega)] at this
    exact⟨_,this⟩)
   obtain⟨y,h3,h4⟩:=this
   exact⟨y,h3,h4⟩
  ·cases h
 | d+1,T,.unit,h,_,_,_,_=>by simp[ik] at h
 | d+1,T,.err,h,_,_,_,_=>by simp[ik] at h
 | d+1,T,.fn,h,_,_,_,_=>by simp[ik] at h
 | d+1,T,.pt,h,_,_,_,_=>by simp[ik] at h
 | d+1,T,.pair _ _,h,_,_,_,_=>by simp[ik] at h
theorem Vs {d:Nat} {T:TypeId} {t:Ty} (h:ik P d T t=true) {r:Reach} {v:Value} (hv:Value.okWide P w r base T v):v=mk t v.cells.toList:=by
 cases d with
 | zero=>simp[ik] at h
 | succ d =>
  unfold ik at h
  cases t with
  | int k =>
   simp only at h
   split at h
   ·rename_i hu
    obtain⟨n,rfl⟩:=okWide_int hu hv
    rfl
   ·cases h
  | bool =>
   simp only at h
   split at h
   ·rename_i hu
    obtain⟨b,rfl⟩:=okWide_bool hu hv
    rfl
   ·cases h
  | str =>
   simp only at h
   split at h
   ·rename_i hu
    obtain⟨s,rfl⟩:=okWide_string hu hv
    rfl
   ·cases h
  | slice e t =>
   simp only at h
   split at h
   ·rename_i hu
    obtain⟨a,l,c,rfl⟩:=okWide_slice hu hv
    rfl
   ·cases h
  | agg t =>
   simp only at h
   split at h
   ·rename_i hu
    obtain⟨cs,rfl,_⟩:=okWide_struct hu hv
    show Value.agg cs = .agg cs.toList.toArray
    simp
   ·cases h
  | unit=>simp at h
  | err=>simp at h
  | fn=>simp at h
  | pt=>simp at h
  | pair a b=>simp at h
theorem Tf {d:Nat} {T:TypeId} {t:Ty} (h:ik P d T t=true) {r:Reach} {v:Value} {x:DataW H} {ps:List MemPlace} (hv:Value.okWide P w r base T v) (hx:DataW.Trod enc P w 0 sp held T v x ps) : ∃ y:t.den,AW t y∧v=mk t v.cells.toList∧RK (DW w) t y v.cells.toList:=by
 obtain⟨fuel,hx⟩:=hx
 obtain⟨y,h1,h2⟩:=HS d T t h fuel _ _ hx
 exact⟨y,h2,Vs h hv,h1⟩
end
abbrev Gg (w:World) (b o:Nat):Prop := ∃ v,w.cell? ⟨b,o,none⟩=some v
theorem Tg {w:World} {args:List SV} {us:List Value} (h:ct (Ln (Gg w) w) (fun _=>none) args us):bm w (nH [] fun _=>none) (Gg w) args (az []) (fun _=>none) (Gg w) {tmps:=us.toArray,defers:=[]} w:=by
 refine⟨h,rfl,(fun r e t v h=>by cases h),(fun r b t h=>by cases h),(fun r x h=>by cases h),(fun r r' x x' b h=>by cases h),(fun r x b h=>by cases h),(fun r x b h=>by cases h),fun _ _ _=>rfl,Nat.le_refl _,rfl,rfl,rfl,?_,fun _ _ _ _ h=>h,fun _ _ _ h=>h⟩
 rintro b o ⟨v,hv⟩
 unfold World.cell? at hv
 split at hv
 ·rename_i h
  exact(Array.getElem?_eq_some_iff.1 h).1
 ·cases hv
theorem Th {w:World} {t:Ty} {y:t.den} {v:Value} (h1:v=mk t v.cells.toList) (h2:RK (DW w) t y v.cells.toList):RV (Ln (Gg w) w) (fun _=>none) (.val t y) v:=by
 rw[h1]
 exact .val (gT (fun b o v h=>⟨⟨v,h.2⟩,h.2⟩) h2)
theorem Jf {P:Program} {E:cO} {Gp:WP} (hst:F3 Gp) (hm:P.follows .mixedOrders=true) (hE:gf P E) (hP:xU Gp P E) {I:an} {key:Nat} (hg:dq E.fns key=some I) {args:List SV} {z:I.sh.den×I.bx.den} (h:th E I args [] z)
  (h1:bU I.sh z.1 0=([.val .bool true],[],0)) (h2:bU I.bx z.2 0=([],[],0)) (h3:cH I.rb [] [] (rP I.bx)=some []) {w:World} {us:List Value} (hGp:Gp w (nH [] fun _=>none)) (hu:ct (Ln (Gg w) w) (fun _=>none) args us) :
  Calls P I.g us.toArray w fun e w'=>e = .returned (.bool true)∧Below w.heap.size w w':=by
 have:=h.calls hst hm hE hP hg (fun k p hp=>by simp at hp) hGp (Tg hu) (fun _ _=>rfl) (N:=0) (Nat.zero_le _) h1 h2 h3
 refine this.mono ?_
 rintro e w' ⟨vals,γr,Pr',rfl,hB,_⟩
 have hv:=hB.vals
 cases hv with
 | cons hv hk =>
  cases hk
  have:=iP hv
  subst this
  refine⟨rfl,hB.os,hB.tape,hB.output,hB.size,fun k hk=>hB.frame k hk ?_⟩
  rintro⟨j,x,hj,_⟩
  cases hj
end Go.Proofs.YtnodjiikdgmeaaaGreatDoor.Abs
namespace Go.Proofs.YtnodjiikdgmeaaaGreatDoor.Abs
open Go Go.RowKit
def tk:(t:Ty)→t.den→List Value
 | .int k,n=>[.int k n]
 | .bool,b=>[.bool b]
 | .err,_=>[]
 | .fn,_=>[]
 | .pt,_=>[]
 | .str,s=>[.string s]
 | .unit,_=>[]
 | .pair a b,x=>tk a x.1++tk b x.2
 | .agg t,x=>tk t x
 | .slice _ _,_=>[]
theorem n6 {L:Lk} : ∀ {t:Ty} {x:t.den} {cs:List Value},dB t=true→(RK L t x cs↔cs=tk t x)
 | .int k,n,cs,_=>Iff.rfl
 | .bool,b,cs,_=>Iff.rfl
 | .err,_,_,hn=>by cases hn
 | .fn,_,_,hn=>by cases hn
 | .pt,_,_,hn=>by cases hn
 | .str,s,cs,_=>Iff.rfl
 | .unit,_,cs,_=>Iff.rfl
 | .pair a b,x,cs,hn=>by
  simp only[dB,Bool.and_eq_true] at hn
  constructor
  ·rintro⟨c,d,rfl,h1,h2⟩
   rw[(n6 hn.1).1 h1,(n6 hn.2).1 h2]
   rfl
  ·rintro rfl
   exact⟨_,_,rfl,(n6 hn.1).2 rfl,(n6 hn.2).2 rfl⟩
 | .agg t,x,cs,hn=>n6 (t:=t) hn
 | .slice _ _,_,_,hn=>by cases hn
theorem Pl {t:Ty} (hn:dB t=true) (x:t.den):(tk t x).length=t.sz:=eE (L:=fun _ _ _=>True) ((n6 hn).2 rfl)
theorem Xj {t:Ty} (hn:dB t=true) (x:t.den) : ∀ v∈tk t x,v.oneCell'=true:=pF (L:=fun _ _ _=>True) ((n6 hn).2 rfl)
theorem Xk {L:Lk} {t:Ty} (hn:dB t=true) {xs:List t.den} {css:List (List Value)}:mb L t xs css↔css=xs.map (tk t):=by
 constructor
 ·rintro⟨h1,h2⟩
  apply List.ext_getElem (by simp[h1])
  intro i h3 h4
  rw[List.getElem_map]
  exact(n6 hn).1 (h2 i (by omega) h3)
 ·rintro rfl
  refine⟨by simp,fun i h h' => ?_⟩
  rw[List.getElem_map]
  exact(n6 hn).2 rfl
theorem Zp {w:World} {base:Nat} {e:TypeId} {size:Nat} {v:Value} {n:Nat} {xs:List Value} (h:w.ownsRow base e size v n xs):w.ownsRow 0 e size v n xs:=by
 refine⟨h.1,?_⟩
 rcases h.2 with h2 | ⟨g,cap,cur,h3,_,h4⟩
 ·exact .inl h2
 ·exact .inr ⟨g,cap,cur,h3,Nat.zero_le _,h4⟩
end Go.Proofs.YtnodjiikdgmeaaaGreatDoor.Abs
namespace Go.Proofs.YtnodjiikdgmeaaaGreatDoor.Abs
open Go Go.RowKit
def QG:(s:Sh)→s.den→List Value→Prop
 | .pair (.val t) b,x,us => ∃ cs us',us=mk t cs :: us'∧RK (fun _ _ _=>False) t x.1 cs∧QG b x.2 us'
 | .unit,_,us=>us=[]
 | _,_,_=>False
theorem D3 {γ:Nat→Option G} : ∀ {s:Sh} {x:s.den} {us:List Value} (n:Nat),QG s x us → ∃ vs,bU s x n=(vs,[],n)∧ct (fun _ _ _=>False) γ vs us
 | .pair (.val t) b,x,us,n,h=>by
  obtain⟨cs,us',rfl,hk,h⟩:=h
  obtain⟨vs,h1,h2⟩:=D3 (γ:=γ) (s:=b) (x:=x.2) n h
  refine⟨.val t x.1 :: vs,?_,.cons (.val hk) h2⟩
  show(let (v,u,m):=aD (.val t) x.1 n; let (l,u',m'):=aD.go b x.2 m; (v :: l,u++u',m'))=_
  have h1:aD.go b x.2 n=(vs,[],n):=h1
  simp only[aD,h1,List.append_nil]
 | .unit,x,us,n,h=>⟨[],rfl,by rw[show us=[] from h]; exact .nil⟩
 | .val _,_,_,_,h=>h.elim
 | .row _ _ _,_,_,_,h=>h.elim
 | .strct _,_,_,_,h=>h.elim
 | .ptr _,_,_,_,h=>h.elim
 | .pair .unit _,_,_,_,h=>h.elim
 | .pair (.row _ _ _) _,_,_,_,h=>h.elim
 | .pair (.pair _ _) _,_,_,_,h=>h.elim
 | .pair (.strct _) _,_,_,_,h=>h.elim
 | .pair (.ptr _) _,_,_,_,h=>h.elim
theorem kT {Gp:WP} {P:Program} {g:Nat} {fn:Func} {sh:Sh} {own:List Bool} {live:List (Nat×List Nat)} {pr:Option (List SV→aH→Option (sh.den×Sh.unit.den))} {args:List SV} {z:sh.den×Sh.unit.den} (hz : ∀ n,(bU sh z.1 n).2=([],n))
  (hcall : ∀(w:World) (Pr:Nat→Nat→Prop) (γ:Nat→Option G) (us:List Value),Gp w (fun _=>False)→(∀ b o,Pr b o→b < w.heap.size)→ct (Ln Pr w) γ args us→Calls P g us.toArray w fun e w' => ∃ us',e = .returned (BC us')∧QG sh z.1 us'∧Below w.heap.size w w') (hst : ∀ w X,Gp w X→Gp w fun _=>False) :
  iB Gp P {g:=g,fn:=fn,sh:=sh,bx := .unit,own:=own,live:=live,prim:=pr} args [] z:=by
 intro hcanon w γ Pr us hG hI hlim N hN vs u n bs u' n' ub hm1 hm2 hub
 have hu:=hz N
 rw[show bU sh z.1 N=(vs,u,n) from hm1] at hu
 obtain⟨rfl,rfl⟩:=Prod.mk.inj hu
 cases hm2
 cases hub
 refine(hcall w _ γ us (hst _ _ hG) hI.prIn hI.slots).mono ?_
 rintro e w' ⟨us',rfl,hf,hB⟩
 obtain⟨vs',hv1,hv2⟩:=D3 (γ:=fun _=>none) n hf
 rw[show bU sh z.1 n=(vs,[],n) from hm1] at hv1
 cases hv1
 refine⟨_,fun _=>none,Pr,rfl,⟨g6 (fun _ _ _ h=>h.elim) (fun _ _ h=>h) hv2,?_,?_,?_,?_,?_,?_,?_,?_,?_,hB.size,hB.os,hB.tape,hB.output,?_,?_,?_⟩,?_⟩
 ·intro r g h; cases h
 ·intro j t c h; simp at h
 ·intro r x h; cases h
 ·intro r r' x x' b h; cases h
 ·intro j t c b h; simp at h
 ·intro j t c b h; simp at h
 ·intro r x b h; cases h
 ·intro r x b h; cases h
 ·exact fun k hk _=>hB.block k hk
 ·exact fun b o ho=>Nat.lt_of_lt_of_le (hI.prIn b o ho) hB.size
 ·exact fun b hb hx o ho=>ho
 ·intro b o v hv
  refine⟨hv.1,?_⟩
  rw[World.cell?_of_block (hB.block b (hI.prIn b o hv.1))]
  exact hv.2
 ·intro p hp
  cases hp
abbrev iU:=String×(Array Value→Prop)
def fo (P:Program) (l:List iU):WP:=fun w X => ∀ p∈l,(∃ a,w.var? P p.1=some a∧p.2 a) ∧ ∀ g,P.globalNamed p.1=some g → ¬X g
theorem fo.stable {P:Program} {l:List iU}:F3 (fo P l):=by
 intro w0 X w X' h k p hp
 obtain⟨⟨a,h1,h0⟩,h2⟩:=h p hp
 unfold World.var? at h1 ⊢
 cases hg:P.globalNamed p.1 with
 | none=>rw[hg] at h1; cases h1
 | some g =>
  rw[hg] at h1
  simp only[Option.bind_some] at h1 ⊢
  have hlt:g < w0.heap.size:=by
   rcases Nat.lt_or_ge g w0.heap.size with h | h
   ·exact h
   ·rw[Array.getElem?_eq_none h] at h1
    cases h1
  obtain⟨_,k2,k3⟩:=k g hlt (h2 g hg)
  rw[k3]
  exact⟨⟨a,h1,h0⟩,fun g' hg'=>by cases hg'; exact k2⟩
theorem fo.none {P:Program} {l:List iU} {w:World} {X:Nat→Prop} (h:fo P l w X):fo P l w fun _=>False :=
 fun p hp=>⟨(h p hp).1,fun _ _ h=>h⟩
theorem LM {c:ByteArray} (h:uU c=true):c.size < 4294967281 ∧ ∀(j:Nat) b,c.data.toList[j]? = some b→b.toNat < 128:=by
 unfold uU at h
 simp only[Bool.and_eq_true,decide_eq_true_eq,List.all_eq_true] at h
 exact⟨by omega,fun j b hj=>h.2 b (List.mem_of_getElem? hj)⟩
def xW (n:String):iU:=(n,fun a => ∃ m,a[0]? = some (.int .i64 m))
def Gh (n:String):iU:=(n,fun a => ∃ tp p,a = #[.iface tp p])
theorem D4 {P:Program} {l:List iU} {w:World} {n:String} {g:Nat} (h:fo P l w fun _=>False) (hm:xW n∈l) (hg:P.globalNamed n=some g) : ∃ m,w.cell? ⟨g,0,Option.none⟩=some (.int .i64 m):=by
 obtain⟨⟨a,h1,m,h2⟩,_⟩:=h _ hm
 refine⟨m,?_⟩
 have:=World.var?_cell hg h1 0
 rw[this]
 exact h2
theorem Jg {P:Program} {w:World} {n:String} {g:Nat} (hg:P.globalNamed n=some g) (h : ∃ m,w.cell? ⟨g,0,Option.none⟩=some (.int .i64 m)) : ∃ a,w.var? P (xW n).1=some a∧(xW n).2 a:=by
 obtain⟨m,h⟩:=h
 unfold World.cell? at h
 split at h
 ·rename_i c t z hc
  refine⟨c,?_,m,h⟩
  show World.var? P w n=some c
  unfold World.var?
  rw[hg]
  simp only[Option.bind_some,hc]
 ·cases h
end Go.Proofs.YtnodjiikdgmeaaaGreatDoor.Abs
