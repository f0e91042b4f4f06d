/- Plain laws: a formula's text. -/
import Derived.Test.YtfffplonjaigkaaGreatDoorZM5
import Derived.Lib.SplitLaws
set_option linter.unusedVariables false
set_option linter.unusedSimpArgs false
set_option linter.unusedSectionVars false
open Bool renaming and_eq_true→M7,and_true→Z0,eq_iff_iff→R8,false_eq_true→M8,not_false→O8,not_true→O5,true_and→P4
open ByteArray renaming size→N6,toList→M1
open Go.Lib renaming parseIntB→U5,parseUintB→ac_,parseUintM→X1
open List renaming all_cons→U1,append_nil→Q9,concat_eq_append→ab_,cons_append→W0,dropWhile_cons_of_neg→S6,dropWhile_cons_of_pos→X6,drop_succ_cons→Q1,drop_zero→S9,eq_nil_or_concat→aa_,getD_eq_getElem?_getD→P7,getLast?_append→aj_,getLast?_singleton→Y6,head?_cons→T5,length_append→M6,length_cons→N3,length_map→S8,length_nil→S4,length_pos_iff→Y3,length_singleton→M3,length→N0,map_cons→S2,mem_cons_of_mem→N5,mem_cons→O9,mem_singleton→P0,nil_append→X3,pairwise_cons→T4
open Option renaming bind_some→M0
open Option.some renaming injEq→O2
open Prod.mk renaming injEq→Y7
open _root_ renaming ByteArray→L9,absurd→P1,congrArg→N1,decide_eq_false→O7,decide_eq_true_eq→M9,decide_eq_true→O6,decide_false→S0,decide_true→Q6,if_false→O0,if_neg→M2,if_pos→M5,if_true→O4
namespace Go.Proofs.YtfffplonjaigkaaGreatDoor.Abs
open Go
def qT:ae→ae
 | []=>[]
 | c :: l=>if c=34 then 34 :: 34 :: qT l else c :: qT l
theorem Ib : ∀ l:ae,(qT l).length≤2*l.length
 | []=>by simp[qT]
 | c :: l=>by
  have:=Ib l
  unfold qT
  split <;> simp only[N3] <;> omega
theorem C5 (l:ae) : ∀ pre:ae,(34:UInt8) ∉ pre→qT (pre++l)=pre++qT l
 | [],_=>rfl
 | c :: pre,h=>by
  simp only[O9,not_or] at h
  rw[W0,qT,M2 (fun e=>h.1 e.symm),C5 l pre h.2]
  rfl
theorem Gz : ∀(n:Nat) (l:ae),l.length=n→Lib.replaceK [34] [34,34] (l.count 34) l=qT l:=by
 intro n
 induction n using Nat.strongRecOn with
 | ind n ih =>
  intro l hn
  by_cases hm:(34:UInt8)∈l
  ·obtain⟨pre,t,rfl,h2⟩:=wi 34 l hm
   have hc:(pre++34 :: t).count 34=t.count 34+1:=by
    rw[List.count_append,List.count_eq_zero.2 h2,List.count_cons_self]
    omega
   have hi:Lib.index (pre++34 :: t) [34]=(pre.length:Nat):=by rw[Lib.index_one,yP 34 t pre h2]
   rw[hc,Lib.replaceK_hit _ _ _ _ _ hi,List.take_left' rfl,C5 _ pre h2]
   have hd:(pre++34 :: t).drop (pre.length+([34]:ae).length)=t:=by
    have:pre++34 :: t=(pre++[34])++t:=by simp
    rw[this,List.drop_left' (by simp)]
   rw[hd,ih t.length (by rw[←hn]; simp; omega) t rfl]
   simp[qT]
  ·rw[List.count_eq_zero.2 hm]
   have:=C5 [] l hm
   rw[Q9] at this
   rw[this]
   simp[qT,Lib.replaceK]
theorem El {l:ae} (hl:l.length≤1000000):strings_ReplaceAll (ba l) (⟨#[34]⟩:L9) (⟨#[34,34]⟩:L9)=some ((ba (qT l),()),()):=by
 rw[qi]
 have hcount:Lib.countB (ba l) (ba [34])=l.count 34:=by
  show Lib.count (lb (ba l)) (lb (ba [34]))=_
  rw[cP,cP,Lib.count_one]
 have hle:l.count 34≤l.length:=List.count_le_length
 show(if(ba l).size < 4294967281∧1≤(ba [34]).size∧(ba l).size+Lib.countB (ba l) (ba [34])*(ba [34,34]).size≤140737488355328 then some (((⟨(Lib.replaceAll (lb (ba l)) (lb (ba [34])) (lb (ba [34,34]))).toArray⟩:L9),()),()) else none)=_
 rw[M5 ⟨by rw[aB]; omega,by decide,by rw[hcount,aB,aB]; simp only[N3,S4]; omega⟩,cP,cP,cP]
 congr 3
 show ba (Lib.replaceAll l [34] [34,34])=_
 unfold Lib.replaceAll Lib.replace Lib.replaceNum
 rw[M2 (by decide),M5 (.inl (by decide)),Lib.count_one,Gz _ l rfl]
theorem px {s:ae} (hs:s.length≤1000000) : ∀(l acc:ae),l <:+ s→acc.length+2*l.length≤4000000→iA (ba s) (ba acc) (bd s l)=some ((ba (acc++qT l++[34]),()),())
 | [],acc,h,ha=>by
  rw[qm,aq (by rw[aB]; unfold bd; simp),show(⟨#[34]⟩:L9)=ba [34] from rfl,aW (by simp only[M3]; simp at ha; omega)]
  simp[qT]
 | c :: l,acc,h,ha=>by
  obtain⟨pre,h1,h2⟩:=jk h
  have hl:pre.length+l.length+1=s.length:=by rw[h1]; simp; omega
  rw[N3] at ha
  have h':l <:+ s:=ac ⟨[c],rfl⟩ h
  have e1:(pre.length:Int)+1=bd s l:=by
   unfold bd
   omega
  have e3:(s.take (pre.length+1)).drop pre.length=[c]:=by
   rw[h1,List.take_append,List.drop_append]
   simp
  rw[qm,h2,av (by rw[aB]; omega),fh h1,yK c 34 (n:=34) rfl,wr (by omega) (by omega),show(pre.length:Int)+1=((pre.length+1:Nat):Int) by omega,qw (by omega) (by omega),e3]
  by_cases hc:c=34
  ·subst hc
   rw[av rfl,show(⟨#[34]⟩:L9)=ba [34] from rfl,aW (by simp only[M3]; omega),qw (by omega) (by omega),e3,aW (by simp only[M6,M3]; omega),show((pre.length+1:Nat):Int)=bd s l by omega,px hs l _ h' (by simp only[M6,M3]; omega)]
   simp[qT]
  ·rw[aq hc,aW (by simp only[M3]; omega),show((pre.length+1:Nat):Int)=bd s l by omega,px hs l _ h' (by simp only[M6,M3]; omega)]
   simp[qT,hc]
theorem Ic {l:ae} (hl:l.length≤1000000):vJ (ba l)=some ((ba (34 :: (qT l++[34])),()),()):=by
 rw[D2,show(⟨#[34]⟩:L9)=ba [34] from rfl]
 have:=px hl l [34] (jl l) (by simp only[M3]; omega)
 rw[Lm] at this
 rw[this]
 simp
def ck:List ae→ae
 | []=>[]
 | [x]=>x
 | x :: y :: l=>x++44 :: ck (y :: l)
def cm (f:List ab):Nat→Int→Int→ae
 | 0,_,_=>[]
 | n+1,k,L =>
  let x:=CC f k
  if x.1=1 then(if x.2.2.1.1=2 then 34 :: (qT (lb x.2.2.1.2.2.1)++[34]) else lb (cT x.2.2.1))
  else if x.1=2 then ig x.2.2.2.1
  else if x.1=3 then ig x.2.2.2.1++58 :: ig x.2.2.2.2.1
  else if x.1=4 then 45 :: cm f n (x.2.2.2.2.2.1.getD 0 0) 5
  else if x.1=5 then
   let b:=cm f n (x.2.2.2.2.2.1.getD 0 0) (cr x.2.1)++(cY x.2.1++cm f n (x.2.2.2.2.2.1.getD 1 0) (cr x.2.1+1))
   if cr x.2.1 < L then 40 :: (b++[41]) else b
  else dR x.2.1++40 :: (ck (x.2.2.2.2.2.1.map fun k=>cm f n k 1)++[41])
theorem vf : ∀ l:List ae,ck l=Lib.join l [44]
 | []=>rfl
 | [x]=>by rw[Lib.join_one]; rfl
 | x :: y :: l=>by
  rw[ck,vf (y :: l),Lib.join_cons,Lib.join_cons]
  simp[Lib.joinTail]
theorem vg (x:ae) : ∀(l:List ae),l≠[]→ck (l++[x])=ck l++44 :: x
 | [y],_=>rfl
 | y :: z :: l,_=>by
  show y++44 :: ck (z :: l++[x])=(y++44 :: ck (z :: l))++44 :: x
  rw[vg x (z :: l) (by simp)]
  simp
theorem xT : ∀ l:List ae,(ck l).length≤(l.map N0).sum+l.length
 | []=>by simp[ck]
 | [x]=>by simp[ck]
 | x :: y :: l=>by
  have:=xT (y :: l)
  simp only[ck,M6,N3,S2,List.sum_cons] at this ⊢
  omega
theorem JF {xs:List ae} (h1:xs.length≤1000) (h2:(ck xs).length≤10000000):strings_Join (xs.map fun x=>ba x) (⟨#[44]⟩:L9)=some ((ba (ck xs),()),()):=by
 rw[xp]
 have e:(xs.map fun x=>ba x).map (·.data.toList)=xs:=by
  rw[List.map_map]
  conv=>rhs; rw[←List.map_id xs]
  apply List.map_congr_left
  intro x _
  exact cP x
 show(if(xs.map fun x=>ba x).length≤140737488355328∧(Lib.join ((xs.map fun x=>ba x).map (·.data.toList)) (lb (ba [44]))).length≤140737488355328 then some (((⟨(Lib.join ((xs.map fun x=>ba x).map (·.data.toList)) (lb (ba [44]))).toArray⟩:L9),()),()) else none)=_
 rw[e,cP,←vf,M5 ⟨by rw[S8]; omega,by omega⟩]
theorem yU {p:bM} (h:bS p.1=true):(ig p).length≤6:=by
 obtain⟨c,r,fc,fr,rfl,h1,h2,h3,h4⟩:=tK h
 have k1:=oe c
 have k2:=mG h4
 show(qx c r fc fr).length≤6
 unfold qx kX
 simp only[M6]
 cases fc <;> cases fr <;> simp <;> omega
theorem E7 (k:Int):(dR k).length≤5:=by
 unfold dR
 by_cases hi:k.toNat < 11
 ·have h : ∀ j:Fin 11,(([[],[83,85,77],[77,73,78],[77,65,88],[67,79,85,78,84],[73,70],[65,78,68],[79,82],[78,79,84],[65,66,83],[76,69,78]]:List ae).getD j.val []).length≤5:=by decide
  exact h ⟨k.toNat,hi⟩
 ·rw[P7,List.getElem?_eq_none (by simp; omega)]
  simp
theorem C6 {c:Int→Option (Int×Nat)} {f:List ab} {call:Bool} : ∀(l:List Int) (cur:Int) (h:Nat) (s:Int) (h':Nat),dI c f call l cur h=some (s,h') →
  (∀ kid∈l,∃ p,c kid=some p) ∧ ∀ g:Int→Nat,(∀ kid s' h'',c kid=some (s',h'')→(g kid:Int)≤1000*(kid - s'+1))→(((l.map g).sum:Nat):Int)≤1000*(cur - s)
 | [],cur,h,s,h',e=>by
  simp only[dI,O2,Y7] at e
  obtain⟨rfl,_⟩:=e
  exact⟨fun _ h=>by simp at h,fun g _=>by simp⟩
 | kid :: l,cur,h,s,h',e=>by
  simp only[dI] at e
  split at e
  ·rename_i hk
   rw[Option.bind_eq_some_iff] at e
   obtain⟨p,hp,e⟩:=e
   obtain⟨k1,k2⟩:=C6 l p.1 _ s h' e
   refine⟨fun kid' hm => ?_,fun g hg => ?_⟩
   ·rcases O9.1 hm with rfl | hm
    ·exact⟨p,hp⟩
    ·exact k1 kid' hm
   ·have h1:=k2 g hg
    have h2:=hg kid p.1 p.2 hp
    have:=hk.1
    simp only[S2,List.sum_cons]
    omega
  ·cases e
section
variable {f:List ab}
theorem C7 (n:Nat) (k:Int):cm f n k 0=cm f n k 1:=by
 cases n with
 | zero=>rfl
 | succ n =>
  have hlv : ∀ j,¬cr j < 0 ∧ ¬cr j < 1:=by
   intro j
   unfold cr
   constructor <;> (repeat' split) <;> omega
  unfold cm
  simp only[(hlv _).1,(hlv _).2,O0]
def GA (f:List ab) (n:Nat) (k:Int):Prop := ∀ L:Int,dP f k L=some ((ba (cm f n k L),()),())∧hO f k L=some ((ba (cm f n k L),()),())
theorem xU {n:Nat} {kids:List Int} {a op:Int} {v:ay} {A B:bM} {kids':List Int} (hop:0≤op∧op≤10) (hl:kids.length≤10) (hk : ∀ k∈kids,GA f n k) (hlen:(ck (kids.map fun k=>cm f n k 1)).length≤1000000) : ∀(ys pre:List Int),kids=pre++ys →
  f4 f kids (kids.length:Int) (pre.length:Int) a op v A B kids' ((pre.map fun k=>cm f n k 1).map fun x=>ba x)=some ((ba (dR op++40 :: (ck (kids.map fun k=>cm f n k 1)++[41])),()),())
 | [],pre,h=>by
  rw[Q9] at h
  subst h
  have hf:=E7 op
  rw[kv,aq (Int.lt_irrefl _),xP hop.1 hop.2]
  simp only[M0]
  rw[show(⟨#[40]⟩:L9)=ba [40] from rfl,aW (by simp only[M3]; omega),JF (by rw[S8]; omega) (by omega)]
  simp only[M0]
  rw[aW (by simp only[M6,M3]; omega),show(⟨#[41]⟩:L9)=ba [41] from rfl,aW (by simp only[M6,M3]; omega)]
  simp
 | y :: ys,pre,h=>by
  rw[kv,av (bQ h),bG h,(hk y (by rw[h]; simp) 1).1]
  simp only[M0]
  have hpl:pre.length≤10:=by
   have:=N1 N0 h
   simp at this
   omega
  rw[dv (by simp only[S8,M3]; omega),aV h (by omega)]
  have:=xU (a:=a) (v:=v) (A:=A) (B:=B) (kids':=kids') hop hl hk hlen ys (pre++[y]) (bh h)
  rw[List.map_append,List.map_append] at this
  exact this
theorem xV {n:Nat} {kids:List Int} {a op:Int} {v:ay} {A B:bM} (hl:kids.length≤10) (hk : ∀ k∈kids,GA f n k) (hlen : ∀ pre ys:List Int,kids=pre++ys→(ck (pre.map fun k=>cm f n k 1)).length≤1000000) (hop:(dR op).length≤5) : ∀(ys pre:List Int),kids=pre++ys →
  iB f (ba (dR op++40 :: ck (pre.map fun k=>cm f n k 1))) (pre.length:Int) a op v A B kids=some ((ba (dR op++40 :: (ck (kids.map fun k=>cm f n k 1)++[41])),()),())
 | [],pre,h=>by
  have h0:=hlen pre [] h
  rw[Q9] at h
  subst h
  rw[qn,aq (Int.lt_irrefl _),show(⟨#[41]⟩:L9)=ba [41] from rfl,aW (by simp only[M6,N3,S4]; omega)]
  simp
 | y :: ys,pre,h=>by
  have h0:=hlen pre (y :: ys) h
  have h1:=hlen (pre++[y]) ys (bh h)
  have hpl:pre.length≤10:=by
   have:=N1 N0 h
   simp at this
   omega
  have ih:=xV (a:=a) (v:=v) (A:=A) (B:=B) hl hk hlen hop ys (pre++[y]) (bh h)
  rw[List.map_append,List.map_singleton] at ih h1
  rw[qn,av (bQ h)]
  by_cases hp:pre=[]
  ·subst hp
   simp only[X3,List.map_nil,ck] at ih h1 ⊢
   rw[aq (by simp),bG (pre:=[]) h,(hk y (by rw[h]; simp) 0).2,C7]
   simp only[M0]
   rw[aW (by simp only[M6,N3,S4]; omega),aV (pre:=[]) h (by omega)]
   have e:dR op++[40]++cm f n y 1=dR op++40 :: cm f n y 1:=by simp
   rw[e]
   exact ih
  ·have hpos:=Y3.2 hp
   rw[vg _ _ (by simpa using hp)] at ih h1
   simp only[M6,N3] at h1
   rw[av (by omega),show(⟨#[44]⟩:L9)=ba [44] from rfl,aW (by simp only[M6,N3,S4]; omega),bG h,(hk y (by rw[h]; simp) 0).2,C7]
   simp only[M0]
   rw[aW (by simp only[M6,N3,S4]; omega),aV h (by omega)]
   have e:dR op++40 :: ck (pre.map fun k=>cm f n k 1)++[44]++cm f n y 1=dR op++40 :: (ck (pre.map fun k=>cm f n k 1)++44 :: cm f n y 1):=by simp
   rw[e]
   exact ih
end
section
variable {f:List ab}
theorem Lo {l:List Int} (h:l.length=2) : ∃ a b,l=[a,b]:=by
 match l,h with
 | [a,b],_=>exact⟨a,b,rfl⟩
theorem E8 (hf:f.length≤60) : ∀(n:Nat) (k s:Int) (h:Nat),dx f n k=some (s,h)→GA f n k ∧ ∀ L:Int,((cm f n k L).length:Int)≤1000*(k - s+1)
 | 0,k,s,h,e=>by simp[dx] at e
 | n+1,k,s,h,e=>by
  have hall:=eV f (n+1) k s h e
  obtain⟨hs0,hsk,_⟩:=hall
  have IH:=E8 hf n
  simp only[dx] at e
  split at e
  ·rename_i h0
   split at e
   ·cases e
   ·rename_i x hx
    split at e
    ·rename_i hok
     obtain⟨q1,q2⟩:=C6 _ _ _ _ _ e
     have hkl:k < 60:=by
      have:=(List.getElem?_eq_some_iff.1 hx).1
      omega
     have hK : ∀ kid∈x.2.2.2.2.2.1,GA f n kid ∧ ∃ s' h',dx f n kid=some (s',h'):=by
      intro kid hm
      obtain⟨p,hp⟩:=q1 kid (List.mem_reverse.2 hm)
      exact⟨(IH kid p.1 p.2 hp).1,p.1,p.2,hp⟩
     have hnode:CC f k=x:=by
      unfold CC
      rw[P7,hx]
      rfl
     have hfx : ∀ L,cm f (n+1) k L=(if x.1=1 then(if x.2.2.1.1=2 then 34 :: (qT (lb x.2.2.1.2.2.1)++[34]) else lb (cT x.2.2.1))
      else if x.1=2 then ig x.2.2.2.1
      else if x.1=3 then ig x.2.2.2.1++58 :: ig x.2.2.2.2.1
      else if x.1=4 then 45 :: cm f n (x.2.2.2.2.2.1.getD 0 0) 5
      else if x.1=5 then(if cr x.2.1 < L then 40 :: ((cm f n (x.2.2.2.2.2.1.getD 0 0) (cr x.2.1)++(cY x.2.1++cm f n (x.2.2.2.2.2.1.getD 1 0) (cr x.2.1+1)))++[41]) else(cm f n (x.2.2.2.2.2.1.getD 0 0) (cr x.2.1)++(cY x.2.1++cm f n (x.2.2.2.2.2.1.getD 1 0) (cr x.2.1+1))))
      else dR x.2.1++40 :: (ck (x.2.2.2.2.2.1.map fun k=>cm f n k 1)++[41])):=by
      intro L
      conv=>lhs; unfold cm
      rw[hnode]
     have hI : ∀ L,dP f k L=_:=fun L=>(xo (x0:=f) (x1:=k) (x2:=L)).trans (cO h0 hx)
     have hS : ∀ L,hO f k L=_:=fun L=>(FZ (x0:=f) (x1:=k) (x2:=L)).trans (cO h0 hx)
     unfold dw kl at hok
     by_cases c1:x.1=1
     ·rw[M5 c1] at hok
      simp only[M7,M9] at hok
      have hv:=hok.1.1.2
      have hsz:=fg hv
      have b1:(x.1 == 1)=true:=by rw[c1]; rfl
      by_cases c2:x.2.2.1.1=2
      ·have b2:(x.2.2.1.1 == 2)=true:=by rw[c2]; rfl
       have hlb:(lb x.2.2.1.2.2.1).length≤200:=by rw[ut]; exact hsz
       have hq:=Ib (lb x.2.2.1.2.2.1)
       have ea : ∀ L,cm f (n+1) k L=34 :: (qT (lb x.2.2.1.2.2.1)++[34]):=fun L=>by rw[hfx,M5 c1,M5 c2]
       refine⟨fun L=>⟨?_,?_⟩,fun L => ?_⟩
       ·rw[hI,M5 b1,M5 b2,←gt x.2.2.1.2.2.1,El (by omega)]
        simp only[M0]
        rw[show(⟨#[34]⟩:L9)=ba [34] from rfl,aW (by simp only[M3]; omega),aW (by simp only[M6,M3]; omega),ea]
        simp
       ·rw[hS,M5 b1,M5 b2,←gt x.2.2.1.2.2.1,Ic (by omega)]
        simp only[M0]
        rw[ea]
       ·rw[ea]
        simp only[N3,M6,S4]
        omega
      ·have b2 : ¬(x.2.2.1.1 == 2)=true:=by simpa using c2
       have hvs:=HP hv
       have ea : ∀ L,cm f (n+1) k L=lb (cT x.2.2.1):=fun L=>by rw[hfx,M5 c1,M2 c2]
       refine⟨fun L=>⟨?_,?_⟩,fun L => ?_⟩
       ·rw[hI,M5 b1,M2 b2,r9 hv,ea,gt]
        rfl
       ·rw[hS,M5 b1,M2 b2,iV (oS hv),M5 hv,ea,gt]
        rfl
       ·rw[ea,ut]
        omega
     rw[M2 c1] at hok
     have b1 : ¬(x.1 == 1)=true:=by simpa using c1
     by_cases c2:x.1=2
     ·rw[M5 c2] at hok
      simp only[M7,M9] at hok
      have b2:(x.1 == 2)=true:=by rw[c2]; rfl
      have hr:=hok.2
      have hp:=yU hr
      have ea : ∀ L,cm f (n+1) k L=ig x.2.2.2.1:=fun L=>by rw[hfx,M2 c1,M5 c2]
      refine⟨fun L=>⟨?_,?_⟩,fun L => ?_⟩
      ·rw[hI,M2 b1,M5 b2,iX,M5 hr,ea]
       rfl
      ·rw[hS,M2 b1,M5 b2,mb,M5 hr,ea]
       rfl
      ·rw[ea]
       omega
     rw[M2 c2] at hok
     have b2 : ¬(x.1 == 2)=true:=by simpa using c2
     by_cases c3:x.1=3
     ·rw[M5 c3] at hok
      simp only[M7,M9] at hok
      have b3:(x.1 == 3)=true:=by rw[c3]; rfl
      have ha:=hok.2
      unfold kf at ha
      simp only[M7,M9] at ha
      have hr1:=ha.1.1.1
      have hr2:=ha.1.1.2
      have hp1:=yU hr1
      have hp2:=yU hr2
      have ea : ∀ L,cm f (n+1) k L=ig x.2.2.2.1++58 :: ig x.2.2.2.2.1:=fun L=>by rw[hfx,M2 c1,M2 c2,M5 c3]
      refine⟨fun L=>⟨?_,?_⟩,fun L => ?_⟩
      ·rw[hI,M2 b1,M2 b2,M5 b3,iX,M5 hr1]
       simp only[M0]
       rw[show(⟨#[58]⟩:L9)=ba [58] from rfl,aW (by simp only[M3]; omega),iX,M5 hr2]
       simp only[M0]
       rw[aW (by simp only[M6,M3]; omega),ea]
       simp
      ·rw[hS,M2 b1,M2 b2,M5 b3,mb,M5 hr1]
       simp only[M0]
       rw[show(⟨#[58]⟩:L9)=ba [58] from rfl,aW (by simp only[M3]; omega),mb,M5 hr2]
       simp only[M0]
       rw[aW (by simp only[M6,M3]; omega),ea]
       simp
      ·rw[ea]
       simp only[M6,N3]
       omega
     rw[M2 c3] at hok
     have b3 : ¬(x.1 == 3)=true:=by simpa using c3
     by_cases c4:x.1=4
     ·rw[M5 c4] at hok
      simp only[M7,M9] at hok
      have b4:(x.1 == 4)=true:=by rw[c4]; rfl
      obtain⟨a,hkids⟩ : ∃ a,x.2.2.2.2.2.1=[a]:=List.length_eq_one_iff.1 (by omega)
      obtain⟨hka,sa,ha,hca⟩:=hK a (by rw[hkids]; simp)
      rw[hkids] at e q2 hI hS hfx
      have hla:=fun L=>(IH a sa ha hca).2 L
      simp only[List.reverse_singleton,dI] at e
      split at e
      ·rename_i hc
       rw[hca] at e
       simp only[M0,O2,Y7] at e
       obtain⟨rfl,_⟩:=e
       have ea : ∀ L,cm f (n+1) k L=45 :: cm f n a 5:=fun L=>by rw[hfx,M2 c1,M2 c2,M2 c3,M5 c4]; rfl
       have h5:=hla 5
       refine⟨fun L=>⟨?_,?_⟩,fun L => ?_⟩
       ·rw[hI,M2 b1,M2 b2,M2 b3,M5 b4,cO (y:=a) (by decide) rfl,(hka 5).1]
        simp only[M0]
        rw[show(⟨#[45]⟩:L9)=ba [45] from rfl,aW (by simp only[M3]; omega),ea]
        rfl
       ·rw[hS,M2 b1,M2 b2,M2 b3,M5 b4,cO (y:=a) (by decide) rfl,(hka 5).2]
        simp only[M0]
        rw[show(⟨#[45]⟩:L9)=ba [45] from rfl,aW (by simp only[M3]; omega),ea]
        rfl
       ·rw[ea]
        simp only[N3]
        omega
      ·cases e
     rw[M2 c4] at hok
     have b4 : ¬(x.1 == 4)=true:=by simpa using c4
     by_cases c5:x.1=5
     ·rw[M5 c5] at hok
      simp only[M7,M9] at hok
      have b5:(x.1 == 5)=true:=by rw[c5]; rfl
      obtain⟨o1,o2⟩:=bu.1 hok.1.1.1.1
      obtain⟨a,b,hkids⟩ : ∃ a b,x.2.2.2.2.2.1=[a,b]:=Lo (by omega)
      obtain⟨hka,sa,ha,hca⟩:=hK a (by rw[hkids]; simp)
      obtain⟨hkb,sb,hb,hcb⟩:=hK b (by rw[hkids]; simp)
      rw[hkids] at e q2 hI hS hfx
      have hla:=fun L=>(IH a sa ha hca).2 L
      have hlb:=fun L=>(IH b sb hb hcb).2 L
      have hsa:=eV f n a sa ha hca
      have hsb:=eV f n b sb hb hcb
      simp only[List.reverse_cons,List.reverse_nil,X3,W0,dI] at e
      split at e
      ·rename_i hc
       rw[hcb] at e
       simp only[M0] at e
       split at e
       ·rename_i hc2
        rw[hca] at e
        simp only[M0,O2,Y7] at e
        obtain⟨rfl,_⟩:=e
        have hlv:1≤cr x.2.1∧cr x.2.1≤4:=by
         unfold cr
         constructor <;> (repeat' split) <;> omega
        have ho:=yN x.2.1
        have h1:=hla (cr x.2.1)
        have h2:=hlb (cr x.2.1+1)
        have i1:=hsa.2.1
        have i2:=hsb.2.1
        have ea : ∀ L,cm f (n+1) k L=if cr x.2.1 < L then 40 :: ((cm f n a (cr x.2.1)++(cY x.2.1++cm f n b (cr x.2.1+1)))++[41]) else(cm f n a (cr x.2.1)++(cY x.2.1++cm f n b (cr x.2.1+1))):=fun L=>by rw[hfx,M2 c1,M2 c2,M2 c3,M2 c4,M5 c5]; rfl
        refine⟨fun L=>⟨?_,?_⟩,fun L => ?_⟩
        ·rw[hI,M2 b1,M2 b2,M2 b3,M2 b4,M5 b5,Aa o1 o2]
         simp only[M0]
         rw[cO (y:=a) (by decide) rfl,(hka _).1]
         simp only[M0]
         rw[rF (by omega) o2]
         simp only[M0]
         rw[aW (by omega),cO (y:=b) (by decide) rfl,wr (by omega) (by omega),(hkb _).1]
         simp only[M0]
         rw[aW (by simp only[M6]; omega),ea]
         by_cases hL:cr x.2.1 < L
         ·rw[av hL,M5 hL,show(⟨#[40]⟩:L9)=ba [40] from rfl,aW (by simp only[M6,M3]; omega),show(⟨#[41]⟩:L9)=ba [41] from rfl,aW (by simp only[M6,M3]; omega)]
          simp
         ·rw[aq hL,M2 hL]
          simp
        ·rw[hS,M2 b1,M2 b2,M2 b3,M2 b4,M5 b5,pw]
         simp only[M0]
         rw[cO (y:=a) (by decide) rfl,(hka _).2]
         simp only[M0]
         rw[rG (by omega) o2]
         simp only[M0]
         rw[aW (by omega),cO (y:=b) (by decide) rfl,wr (by omega) (by omega),(hkb _).2]
         simp only[M0]
         rw[aW (by simp only[M6]; omega),ea]
         by_cases hL:cr x.2.1 < L
         ·rw[av hL,M5 hL,show(⟨#[40]⟩:L9)=ba [40] from rfl,aW (by simp only[M6,M3]; omega),show(⟨#[41]⟩:L9)=ba [41] from rfl,aW (by simp only[M6,M3]; omega)]
          simp
         ·rw[aq hL,M2 hL]
          simp
        ·rw[ea]
         split <;> simp only[M6,N3,S4] <;> omega
       ·cases e
      ·cases e
     rw[M2 c5] at hok
     have b5 : ¬(x.1 == 5)=true:=by simpa using c5
     by_cases c6:x.1=6
     ·rw[M5 c6] at hok
      simp only[M7,M9] at hok
      have hargs:=hok.1.1.1
      have hkn:1≤x.2.2.2.2.2.1.length∧x.2.2.2.2.2.1.length≤10∧0≤x.2.1∧x.2.1≤10:=by
       unfold oa at hargs
       split at hargs
       ·simp only[Bool.or_eq_true,M9] at hargs
        omega
       ·split at hargs
        ·rename_i hi
         have:=bu.1 hi
         have:=bu.1 hargs
         omega
        ·split at hargs
         ·rename_i hi
          have:=bu.1 hi
          simp only[M9] at hargs
          omega
         ·cases hargs
      have hg:=q2 (fun kid=>(cm f n kid 1).length) (fun kid s' h'' hc=>(IH kid s' h'' hc).2 1)
      rw[List.map_reverse,List.sum_reverse] at hg
      have hfn:=E7 x.2.1
      have hcl : ∀ l:List Int,(ck (l.map fun k=>cm f n k 1)).length≤(l.map fun k=>(cm f n k 1).length).sum+l.length:=by
       intro l
       have:=xT (l.map fun k=>cm f n k 1)
       rw[List.map_map,S8] at this
       exact this
      have hc0:=hcl x.2.2.2.2.2.1
      have ea : ∀ L,cm f (n+1) k L=dR x.2.1++40 :: (ck (x.2.2.2.2.2.1.map fun k=>cm f n k 1)++[41]):=fun L=>by rw[hfx,M2 c1,M2 c2,M2 c3,M2 c4,M2 c5]
      refine⟨fun L=>⟨?_,?_⟩,fun L => ?_⟩
      ·rw[hI,M2 b1,M2 b2,M2 b3,M2 b4,M2 b5,ea]
       exact xU ⟨hkn.2.2.1,hkn.2.2.2⟩ hkn.2.1 (fun k hk=>(hK k hk).1) (by omega) _ [] rfl
      ·rw[hS,M2 b1,M2 b2,M2 b3,M2 b4,M2 b5,CV hkn.2.2.1 hkn.2.2.2]
       simp only[M0]
       rw[show(⟨#[40]⟩:L9)=ba [40] from rfl,aW (by simp only[M3]; omega),ea]
       refine xV hkn.2.1 (fun k hk=>(hK k hk).1) (fun pre ys hpy => ?_) hfn _ [] rfl
       have h1:=hcl pre
       have h2:(pre.map fun k=>(cm f n k 1).length).sum≤(x.2.2.2.2.2.1.map fun k=>(cm f n k 1).length).sum:=by
        rw[hpy,List.map_append,List.sum_append]
        omega
       have h3:=N1 N0 hpy
       rw[M6] at h3
       omega
      ·rw[ea]
       simp only[M6,N3,S4]
       omega
     ·rw[M2 c6] at hok
      cases hok
    ·cases e
  ·cases e
theorem yV (hl:f.length≤10000000) (hs : ∀ x∈f,x.2.2.1.2.2.1.size≤9223372036854775807) (hk : ∀ x∈f,x.2.2.2.2.2.1.length≤10000000) : ∃ t:ae,nL f=some ((ba t,()),())∧nG f=some ((ba t,()),())∧t.length≤200:=by
 rw[xq,xf,ma hl hs hk,sc hl hs hk]
 simp only[M0]
 cases ho:mn f with
 | false=>exact⟨[],rfl,rfl,by simp⟩
 | true =>
  simp only[O5,M8,O0]
  have ho':=ho
  unfold mn at ho'
  rw[M7] at ho'
  have hlen:=bu.1 ho'.1
  have ht:=ho'.2
  unfold qv at ht
  cases hc:dx f f.length ((f.length:Int) - 1) with
  | none=>rw[hc] at ht; cases ht
  | some p =>
   obtain⟨h1,h2⟩:=E8 (by omega) f.length ((f.length:Int) - 1) p.1 p.2 hc
   rw[wr (by omega) (by omega),(h1 1).1,(h1 0).2,C7]
   simp only[M0,aB]
   by_cases hb:(cm f f.length ((f.length:Int) - 1) 1).length > 200
   ·rw[av (by omega)]
    exact⟨[],rfl,rfl,by simp⟩
   ·rw[aq (by omega)]
    exact⟨_,rfl,rfl,by omega⟩
end
def gv (d:ae):Bool:=d.all cB && decide (aR 0 d≤1000000000000000)
theorem Ie {d:ae} (hne:d≠[]) (h:d.length=1∨d.head? ≠ some 48):fK d=d.all cB:=by
 have hl:=Y3.2 hne
 unfold fK
 rw[O6 (show 1≤d.length by omega),Z0]
 rcases h with h | h
 ·rw[O6 h]; simp
 ·rw[O7 h]; simp
theorem Ig {d:ae} (hne:d≠[]) (h:d.length=1∨d.head? ≠ some 48):(bT d 16 && decide (aR 0 d≤1000000000000000))=gv d:=by
 unfold bT gv
 rw[Ie hne h]
 cases ha:d.all cB with
 | false=>simp
 | true =>
  simp only[P4]
  by_cases hv:aR 0 d≤1000000000000000
  ·have hd:=(EY d (by rw[Ie hne h]; exact ha)).1
   have:=Gk hv
   rw[hd] at this
   rw[O6 this]
   rfl
  ·rw[O7 hv,Bool.and_false]
theorem LO {d:ae} (h:bT d 16=true):aR 0 d < 10000000000000000:=by
 unfold bT fK at h
 simp only[M7,M9] at h
 have:=uu d 0 h.1.1.1
 have h2:10 ^ d.length≤10 ^ 16:=Nat.pow_le_pow_right (by decide) h.2
 omega
theorem Lp (n:Int):aM (vN n)=bV n (-1000000000000000) 1000000000000000:=by
 unfold aM vN
 simp
def oj (b:Bool) (n:Nat):Int:=if b=true then -(n:Int) else n
theorem C8 {b:Bool} {n:Nat}:aM (vN (oj b n))=decide (n≤1000000000000000):=by
 rw[Lp]
 unfold oj bV
 rw[R8,M9,M9]
 cases b <;> simp <;> omega
theorem Ih {d:ae} {b:Bool}:((cb (ba d) 16).bind fun z4=>(if b=true then(if z4.1.2.1=true then((eC (1,(IntKind.i64.wrap (0 - z4.1.1)),(⟨#[]⟩:L9),())).bind fun z5=>(some (((1,(IntKind.i64.wrap (0 - z4.1.1)),(⟨#[]⟩:L9),()),z5.1.1,()),(())))) else(some (((1,(IntKind.i64.wrap (0 - z4.1.1)),(⟨#[]⟩:L9),()),false,()),(())))) else(if z4.1.2.1=true then((eC (1,z4.1.1,(⟨#[]⟩:L9),())).bind fun z6=>(some (((1,z4.1.1,(⟨#[]⟩:L9),()),z6.1.1,()),(())))) else(some (((1,z4.1.1,(⟨#[]⟩:L9),()),false,()),(()))))))
  = (some ((vN (oj b (if bT d 16=true then aR 0 d else 0)),(bT d 16 && decide (aR 0 d≤1000000000000000)),()),()):Option ((ay×Bool×Unit)×Unit)):=by
 have e:=tI d (m:=16) (by decide)
 have e:cb (ba d) 16=_:=e
 rw[e]
 simp only[M0]
 cases hr:bT d 16 with
 | false=>cases b <;> rfl
 | true =>
  have hlt:=LO hr
  simp only[O4,P4]
  cases b with
  | true =>
   simp only[O4]
   rw[wr (by omega) (by omega)]
   have ev:((1,0 - ((aR 0 d:Nat):Int),(⟨#[]⟩:L9),()):ay)=vN (oj true (aR 0 d)):=by
    unfold vN oj
    rw[M5 rfl,show(0:Int) - ((aR 0 d:Nat):Int) = -((aR 0 d:Nat):Int) by omega]
   rw[ev,iJ (by show eS.size≤_; decide),C8]
   rfl
  | false =>
   simp only[M8,O0]
   have ev:((1,((aR 0 d:Nat):Int),(⟨#[]⟩:L9),()):ay)=vN (oj false (aR 0 d)):=rfl
   rw[ev,iJ (by show eS.size≤_; decide),C8]
   rfl
theorem GB {b:Bool} : ∀(d:ae),d≠[]→d.length≤9223372036854775807 → ∃ v:ay,fG (ba d) b 0 0 (⟨#[]⟩:L9)=some ((v,gv d,()),())∧(gv d=true→v=vN (oj b (aR 0 d)))
 | [],h,_=>P1 rfl h
 | c :: l,h,hl=>by
  have fN:(c :: l:ae).length=1∨(c :: l:ae).head? ≠ some 48 → ∃ v:ay,(some ((vN (oj b (if bT (c :: l) 16=true then aR 0 (c :: l) else 0)),(bT (c :: l) 16 && decide (aR 0 (c :: l)≤1000000000000000)),()),()):Option ((ay×Bool×Unit)×Unit))=some ((v,gv (c :: l),()),())∧(gv (c :: l)=true→v=vN (oj b (aR 0 (c :: l)))):=by
   intro hc
   rw[Ig h hc]
   refine⟨_,rfl,fun ho => ?_⟩
   rw[←Ig h hc,M7] at ho
   rw[M5 ho.1]
  rw[xt,aB]
  by_cases h1:1 < (c :: l:ae).length
  ·rw[av (by omega),oc,yK c 48 (n:=48) rfl]
   by_cases h48:c=48
   ·subst h48
    rw[av rfl,show(1:Int)=((1:Nat):Int) from rfl,eg (by simp)]
    simp only[Q1,S9]
    have hne:l≠[]:=by
     rintro rfl
     simp at h1
    have hll:l.length≤9223372036854775807:=by rw[N3] at hl; omega
    obtain⟨v,e1,e2⟩:=GB (b:=b) l hne hll
    have eo:gv (48 :: l)=gv l:=by
     unfold gv
     rfl
    rw[eo]
    exact⟨v,e1,e2⟩
   ·rw[aq h48,Ih]
    exact fN (.inr (by simpa using h48))
  ·rw[aq (by omega),Ih]
   exact fN (.inl (by simp only[N3] at h1 ⊢; omega))
def Ii (w:ae):Bool:=decide (w.head? = some 45)
def ft (w:ae):ae:=if w.head? = some 45 then w.drop 1 else w
def iZ (w:ae):Bool:=decide (ft w≠[]) && gv (ft w)
def k8 (w:ae):Int:=oj (Ii w) (aR 0 (ft w))
theorem C9 {w:ae} (hw:w≠[]) (hl:w.length≤9223372036854775807) : ∃ v:ay,tj (ba w)=some ((v,iZ w,()),())∧(iZ w=true→v=vN (k8 w)):=by
 cases w with
 | nil=>exact P1 rfl hw
 | cons c l =>
  rw[Cu,aB,av (by simp),oc,yK c 45 (n:=45) rfl]
  by_cases hc:c=45
  ·subst hc
   have hm:ft (45 :: l)=l:=rfl
   have hg:Ii (45 :: l)=true:=rfl
   have e0:(M1 (ba l) == M1 (⟨#[]⟩:L9))=decide (l=[]):=cI (b:=[])
   rw[av rfl,show(1:Int)=((1:Nat):Int) from rfl,eg (by simp)]
   simp only[Q1,S9]
   rw[e0]
   unfold iZ k8
   rw[hm,hg]
   by_cases hn:l=[]
   ·rw[av hn]
    subst hn
    exact⟨_,rfl,fun h=>by cases h⟩
   ·rw[aq hn]
    obtain⟨v,e1,e2⟩:=GB (b:=true) l hn (by rw[N3] at hl; omega)
    refine⟨v,?_,fun h => ?_⟩
    ·simpa[hn] using e1
    ·rw[M7] at h
     exact e2 h.2
  ·have hm:ft (c :: l)=c :: l:=M2 (by simpa using hc)
   have hg:Ii (c :: l)=false:=O7 (by simpa using hc)
   have e0:(M1 (ba (c :: l)) == M1 (⟨#[]⟩:L9))=decide (c :: l=[]):=cI (b:=[])
   rw[aq hc,e0,aq (by simp)]
   unfold iZ k8
   rw[hm,hg]
   obtain⟨v,e1,e2⟩:=GB (b:=false) (c :: l) (by simp) hl
   refine⟨v,?_,fun h => ?_⟩
   ·simpa[hc] using e1
   ·rw[M7] at h
    exact e2 h.2
theorem Lq:(fun c=>([48,49,50,51,52,53,54,55,56,57]:ae).contains c)=cB:=funext fun c=>wb (p:=fun c=>([48,49,50,51,52,53,54,55,56,57]:ae).contains c=cB c) (by decide +kernel) c
theorem rN {p:UInt8→Bool} : ∀ {l:ae} {x:UInt8} {t:ae},l.dropWhile p=x :: t→p x=false
 | c :: l,x,t,h=>by
  cases hc:p c with
  | true =>
   rw[X6 hc] at h
   exact rN h
  | false =>
   rw[S6 (by rw[hc]; decide)] at h
   cases h
   exact hc
theorem gQ {p:UInt8→Bool} : ∀ {l:ae},l.dropWhile p=[]↔l.all p=true
 | []=>by simp
 | c :: l=>by
  cases hc:p c with
  | true=>rw[X6 hc,gQ]; simp[hc]
  | false=>rw[S6 (by rw[hc]; decide)]; simp[hc]
theorem JG (d:ae):(Lib.trimS d [48,49,50,51,52,53,54,55,56,57]=[])↔d.all cB=true:=by
 unfold Lib.trimS Lib.trimLeftS Lib.trimRightS
 rw[Lq,gQ]
 constructor
 ·intro h
  cases hr:d.reverse.dropWhile cB with
  | nil =>
   rw[gQ] at hr
   simpa using hr
  | cons x t =>
   have hx:=rN hr
   rw[hr] at h
   simp only[List.all_reverse,U1,M7] at h
   rw[hx] at h
   cases h.1
 ·intro h
  have:d.reverse.dropWhile cB=[]:=gQ.2 (by simpa using h)
  rw[this]
  rfl
theorem Da {w:ae} (hl:w.length≤1000000):tl (ba w)=some (((decide (ft w≠[]) && (ft w).all cB),()),()):=by
 have hp:gI (ba w) (⟨#[45]⟩:L9)=some ((ba (ft w),()),()):=by
  rw[qj,mE,show(⟨#[45]⟩:L9)=ba [45] from rfl,pp _ _ (by omega)]
  simp only[M0,v8]
  unfold ft
  by_cases h:w.head? = some 45
  ·obtain⟨t,rfl⟩:=fR h
   rw[av h,M5 h,aB,eg (by simp)]
   rfl
  ·rw[aq h,M2 h]
   rfl
 rw[Cx,hp]
 simp only[M0]
 have e0 : ∀ x:ae,(M1 (ba x) == M1 (⟨#[]⟩:L9))=decide (x=[]):=fun x=>cI (b:=[])
 have hm:(ft w).length≤w.length:=by
  unfold ft
  split <;> simp
 rw[e0]
 by_cases hn:ft w=[]
 ·simp[hn]
 ·have ht:gJ (ba (ft w)) (⟨#[48,49,50,51,52,53,54,55,56,57]⟩:L9)=some ((ba (Lib.trimS (ft w) [48,49,50,51,52,53,54,55,56,57]),()),()):=by
   rw[oL]
   show(if lB (ba [48,49,50,51,52,53,54,55,56,57])=true∧(ba (ft w)).size≤9223372036854775807 then some (((⟨(Lib.trimS (lb (ba (ft w))) (lb (ba [48,49,50,51,52,53,54,55,56,57]))).toArray⟩:L9),()),()) else none)=_
   rw[M5 ⟨by decide +kernel,by rw[aB]; omega⟩,cP,cP]
  rw[ht]
  simp only[M0,hn,S0,O8,O4,e0,ne_eq,not_false_eq_true,Q6,P4]
  congr 3
  rw[R8,M9]
  exact JG _
theorem Db : ∀(l:ae) (a u:Nat),l.all cB=true→X1 18446744073709551615 a l = .ok u→u=aR a l
 | [],a,u,_,h=>by
  cases h
  rfl
 | c :: l,a,u,h,hp=>by
  simp only[U1,M7] at h
  have hd:48≤c.toNat∧c.toNat≤57:=by simpa[cB] using h.1
  unfold X1 at hp
  rw[M5 hd] at hp
  split at hp
  ·cases hp
  ·split at hp
   ·cases hp
   ·exact Db l _ u h.2 hp
theorem Aj {w:ae} (hne:ft w≠[]) (hd:(ft w).all cB=true) (h:(bD w).2=true):(bD w).1=k8 w:=by
 unfold bD at h ⊢
 cases hp:U5 64 w with
 | range=>rw[hp] at h; cases h
 | ok v =>
  simp only
  cases w with
  | nil=>exact P1 rfl hne
  | cons c l =>
   unfold U5 at hp
   simp only at hp
   unfold k8
   by_cases hc:c=45
   ·subst hc
    have hm:ft (45 :: l)=l:=rfl
    have hg:Ii (45 :: l)=true:=rfl
    rw[hm] at hne hd
    have h45:(45:UInt8).toNat=45:=rfl
    rw[M5 (.inr h45)] at hp
    unfold ac_ at hp
    rw[M2 hne] at hp
    cases hu:X1 (2 ^ 64 - 1) 0 l with
    | range=>rw[hu] at hp; cases hp
    | ok u =>
     rw[hu] at hp
     have:=Db l 0 u hd hu
     simp only at hp
     split at hp
     ·cases hp
     ·split at hp
      ·cases hp
      ·cases hp
       rw[hm,hg,this]
       rfl
    | _=>rw[hu] at hp; cases hp
   ·have hm:ft (c :: l)=c :: l:=M2 (by simpa using hc)
    have hg:Ii (c :: l)=false:=O7 (by simpa using hc)
    rw[hm] at hd
    have hcd:48≤c.toNat∧c.toNat≤57:=by
     simp only[U1,M7] at hd
     simpa[cB] using hd.1
    rw[M2 (by omega)] at hp
    unfold ac_ at hp
    rw[M2 (by simp)] at hp
    cases hu:X1 (2 ^ 64 - 1) 0 (c :: l) with
    | range=>rw[hu] at hp; cases hp
    | ok u =>
     rw[hu] at hp
     have:=Db (c :: l) 0 u hd hu
     simp only at hp
     split at hp
     ·cases hp
     ·split at hp
      ·cases hp
      ·rw[M2 (by omega)] at hp
       cases hp
       rw[hm,hg,this]
       rfl
    | _=>rw[hu] at hp; cases hp
 | _=>rw[hp] at h; cases h
theorem Em {w:ae} (h:iZ w=true):bD w=(k8 w,true):=by
 unfold iZ gv at h
 simp only[M7,M9] at h
 obtain⟨hne,hd,hv⟩:=h
 have hp2:(bD w).2=true:=by
  cases w with
  | nil=>exact P1 rfl hne
  | cons c l =>
   by_cases hc:c=45
   ·subst hc
    have hm:ft (45 :: l)=l:=rfl
    rw[hm] at hne hd hv
    have h45:(45:UInt8).toNat=45:=rfl
    have hu:X1 (2 ^ 64 - 1) 0 l = .ok (aR 0 l):=Ba l 0 hd (by omega)
    have:U5 64 (45 :: l) = .ok (-((aR 0 l:Nat):Int)):=by
     unfold U5
     simp only
     rw[M5 (.inr h45)]
     unfold ac_
     rw[M2 hne,hu]
     simp only
     rw[M2 (by omega),M2 (by omega)]
     rfl
    unfold bD
    rw[this]
   ·have hm:ft (c :: l)=c :: l:=M2 (by simpa using hc)
    rw[hm] at hd hv
    have hcd:48≤c.toNat∧c.toNat≤57:=by
     have hd':=hd
     simp only[U1,M7] at hd'
     simpa[cB] using hd'.1
    have hu:X1 (2 ^ 64 - 1) 0 (c :: l) = .ok (aR 0 (c :: l)):=Ba (c :: l) 0 hd (by omega)
    have:U5 64 (c :: l) = .ok ((aR 0 (c :: l):Nat):Int):=by
     unfold U5
     simp only
     rw[M2 (by omega)]
     unfold ac_
     rw[M2 (by simp),hu]
     simp only
     rw[M2 (by omega),M2 (by omega),M2 (by omega)]
    unfold bD
    rw[this]
 exact Prod.ext (Aj hne hd hp2) hp2
theorem Lr {w:ae} (h:iZ w=false) (h1:(bD w).2=true) (h2:(decide (ft w≠[]) && (ft w).all cB)=true):aM (vN (bD w).1)=false:=by
 simp only[M7,M9] at h2
 rw[Aj h2.1 h2.2 h1]
 unfold k8
 rw[C8]
 unfold iZ gv at h
 rw[O6 h2.1,h2.2] at h
 simpa using h
theorem GC {w:ae} (h:iZ w=true) : -1000000000000000≤k8 w∧k8 w≤1000000000000000:=by
 unfold iZ gv at h
 simp only[M7,M9] at h
 unfold k8 oj
 split <;> omega
theorem rO {x:L9} (hx:x.size≤9223372036854775807) : ∃(t:ae) (b:Bool),rl x=some ((ba t,b,()),())∧rh x=some ((ba t,b,()),())∧t.length≤200:=by
 obtain⟨w,rfl⟩ : ∃ s,x=ba s:=⟨lb x,(gt x).symm⟩
 rw[Ec,D3,pm hx,rz hx]
 simp only[M0]
 have e0 : ∀ x:ae,(M1 (ba x) == M1 (⟨#[]⟩:L9))=decide (x=[]):=fun x=>cI (b:=[])
 rw[e0]
 cases hp:(plain (ba w) && decide (((ba w).size:Int)≤200)) with
 | false =>
  have hw:w≠[]:=by
   rintro rfl
   exact P1 hp (by decide)
  rw[O7 hw]
  exact⟨[],false,rfl,rfl,by simp⟩
 | true =>
  have hp':=hp
  rw[M7,M9,aB] at hp'
  have hl:w.length≤200:=by omega
  simp only[O5,M8,O0]
  by_cases hw:w=[]
  ·subst hw
   exact⟨[],true,rfl,rfl,by simp⟩
  ·rw[aq hw,aq hw]
   have hcut:b8 (ba w) (⟨#[61]⟩:L9)=_:=oV w [61] (by omega)
   rw[hcut]
   simp only[M0,v8]
   cases w with
   | nil=>exact P1 rfl hw
   | cons c l =>
    rw[oc,yK c 61 (n:=61) rfl]
    by_cases hc:c=61
    ·subst hc
     have hll:l.length≤200:=by rw[N3] at hl; omega
     simp only[T5,Q6,O4,M3,Q1,S9]
     rw[show(1:Int)=((1:Nat):Int) from rfl,eg (by simp)]
     simp only[Q1,S9]
     obtain⟨f,b,r1,r2,r3,r4⟩:=LN (x:=ba l) (by rw[aB]; omega)
     rw[r1,r2]
     simp only[M0]
     have hsm:f.length≤10000000∧(∀ x∈f,x.2.2.1.2.2.1.size≤9223372036854775807) ∧ ∀ x∈f,x.2.2.2.2.2.1.length≤10000000:=by
      cases b with
      | false=>rw[r4 rfl]; simp
      | true =>
       have ho:=r3 rfl
       have hs:cx f=true:=by
        unfold cx
        rw[List.all_eq_true]
        intro y hy
        obtain⟨i,hi⟩:=List.getElem?_of_mem hy
        exact(rD ho i y hi).1
       have ho':=ho
       unfold mn at ho'
       rw[M7] at ho'
       have:=bu.1 ho'.1
       exact⟨by omega,Gx (rK hs),Gy (rK hs)⟩
     obtain⟨t,t1,t2,t3⟩:=yV hsm.1 hsm.2.1 hsm.2.2
     rw[t2,Cw,t1]
     simp only[M0]
     rw[show(⟨#[61]⟩:L9)=ba [61] from rfl,aW (by simp only[M3]; omega),e0,aB]
     cases b with
     | false =>
      simp only[O8,O4]
      refine⟨[],false,?_,rfl,by simp⟩
      by_cases ht:t=[] <;> simp[ht]
     | true =>
      simp only[O5,M8,O0]
      by_cases ht:t=[]
      ·refine⟨[],false,?_,?_,by simp⟩ <;> simp[ht]
      ·rw[wr (by omega) (by omega)]
       by_cases h2:t.length < 200
       ·refine⟨61 :: t,true,?_,?_,by rw[N3]; omega⟩
        ·rw[O7 ht,O6 (show(t.length:Int) < 200 by omega)]
         rfl
        ·rw[aq ht,aq (by omega),aW (by simp only[M3]; omega)]
         rfl
       ·refine⟨[],false,?_,?_,by simp⟩
        ·rw[O7 ht,O7 (show ¬(t.length:Int) < 200 by omega)]
         rfl
        ·rw[aq ht,av (by omega)]
    ·have hnc : ¬(some c=some (61:UInt8)):=by simpa using hc
     simp only[T5,hnc,S0,M8,O0,hc]
     generalize hwd:(c :: l:ae)=w at *
     have hsz:(ba w).size=w.length:=aB w
     rw[pu (by omega)]
     obtain⟨v,n1,n2⟩:=C9 hw (by omega)
     rw[n1,Da (by omega),md (by omega),se (by omega)]
     simp only[M0,xv]
     rw[pn (by show eS.size≤_; decide)]
     simp only[M0]
     have tail : ∃(t:ae) (b:Bool),(if(bn w).2=true then(some ((ba w,true,()),(())):Option ((L9×Bool×Unit)×Unit)) else(if((N6 (ba w):Int) == 200)=true then(some (((⟨#[]⟩:L9),false,()),(()))) else(aZ (⟨#[39]⟩:L9) (ba w) fun y2=>(some ((y2,true,()),(()))))))=some ((ba t,b,()),())
       ∧ (if(!(bn w).2)=true then((fb (2,0,ba w,())).bind fun z7=>(if(decide ((N6 z7.1.1:Int) > 200))=true then(some (((⟨#[]⟩:L9),false,()),(()))) else(some ((z7.1.1,true,()),(()))))) else((fb (bn w).1).bind fun z8=>(if(decide ((N6 z8.1.1:Int) > 200))=true then(some (((⟨#[]⟩:L9),false,()),(()))) else(some ((z8.1.1,true,()),(()))))))=some ((ba t,b,()),())∧t.length≤200:=by
      cases hr:(bn w).2 with
      | true =>
       obtain⟨k1,k2⟩:=oh hr
       refine⟨w,true,rfl,?_,hl⟩
       simp only[O5,M8,O0]
       rw[iV (oS k1),M5 k1,k2]
       simp only[M0]
       rw[aq (by rw[hsz]; omega)]
      | false =>
       simp only[O8,M8,O0,O4]
       have hov:aM (2,0,ba w,())=true:=by
        unfold aM
        rw[M5 rfl]
        simp only[Q6,P4]
        exact hp
       have htx:cT (2,0,ba w,())=ba (39 :: w):=by
        show(⟨#[39]⟩:L9)++ba w=_
        rw[show(⟨#[39]⟩:L9)=ba [39] from rfl,lM]
        rfl
       rw[iV (oS hov),M5 hov,htx,Gf (by omega),show(⟨#[39]⟩:L9)=ba [39] from rfl,lM]
       simp only[M0,aB,N3]
       by_cases h2:w.length=200
       ·rw[M5 (by simp[h2]),av (by omega)]
        exact⟨[],false,rfl,rfl,by simp⟩
       ·rw[M2 (by simp only[beq_iff_eq]; omega),aq (by omega)]
        exact⟨39 :: w,true,rfl,rfl,by rw[N3]; omega⟩
     cases ho:iZ w with
     | true =>
      have hpv:=Em ho
      have hrg:=GC ho
      have hdg:(decide (ft w≠[]) && (ft w).all cB)=true:=by
       unfold iZ gv at ho
       simp only[M7] at ho ⊢
       exact⟨ho.1,ho.2.1⟩
      have hok:aM (vN (k8 w))=true:=by
       rw[Lp]
       exact bu.2 hrg
      have hit:=rA (n:=k8 w) (by omega) (by omega)
      rw[n2 ho,hpv,hdg]
      simp only[O4,hok]
      rw[po (by omega) (by omega),iV (oS hok),M5 hok]
      refine⟨lb (eL (k8 w)),true,?_,?_,by rw[ut]; omega⟩
      ·rw[gt]; rfl
      ·rw[gt]; rfl
     | false =>
      obtain⟨t,b,s1,s2,s3⟩:=tail
      refine⟨t,b,?_,?_,s3⟩
      ·cases h1:(bD w).2 with
       | false=>simpa using s1
       | true =>
        cases h2:(decide (ft w≠[]) && (ft w).all cB) with
        | false=>simpa using s1
        | true =>
         rw[Lr ho h1 h2]
         simpa using s1
      ·simpa using s2
noncomputable def k9 (x:L9):L9×Bool:=if h:x.size≤9223372036854775807 then(ba (rO h).choose,(rO h).choose_spec.choose) else(eS,false)
theorem Ij {x:L9} (h:x.size≤9223372036854775807):rl x=some (((k9 x).1,(k9 x).2,()),())∧rh x=some (((k9 x).1,(k9 x).2,()),())∧(k9 x).1.size≤200:=by
 have hs:=(rO h).choose_spec.choose_spec
 unfold k9
 rw[dif_pos h]
 exact⟨hs.1,hs.2.1,by rw[aB]; exact hs.2.2⟩
noncomputable def oZ (x:L9):Bool:=(k9 x).2 && !decide (x=eS) && decide ((k9 x).1=x)
theorem tO {x:L9} (h:x.size≤9223372036854775807):oH x=some ((oZ x,()),()):=by
 rw[Cy,(Ij h).1]
 simp only[M0,zz]
 unfold oZ
 cases (k9 x).2 <;> by_cases hx:x=eS <;> simp[hx]
def eK (a b:eB):Bool:=decide (a.2.1 < b.2.1) || (decide (a.2.1=b.2.1) && decide (a.1 < b.1))
theorem En (a b:eB):vK a b=some ((eK a b,()),()):=by
 rw[D4]
 unfold eK
 by_cases h1:a.2.1 < b.2.1
 ·simp[h1]
 ·by_cases h2:a.2.1=b.2.1 <;> simp[h1,h2]
theorem xW (a b:eB) : ∃ k:Int,nI a b=some ((k,()),())∧(k < 0↔eK a b=true):=by
 rw[xh,zT,zT]
 simp only[M0]
 rw[Jn (by simp)]
 refine⟨_,rfl,?_⟩
 unfold eK
 by_cases h1:a.2.1 < b.2.1
 ·simp[v6,h1]
 ·by_cases h2:b.2.1 < a.2.1
  ·have h3 : ¬a.2.1=b.2.1:=by omega
   simp[v6,h1,h2,h3]
  ·have h3:a.2.1=b.2.1:=by omega
   by_cases h4:a.1 < b.1
   ·simp[v6,h1,h2,h3,h4]
   ·by_cases h5:b.1 < a.1
    ·simp[v6,h1,h2,h3,h4,h5]
    ·simp[v6,h1,h2,h3,h4,h5]
noncomputable def tP:Option bo→List bo→Bool
 | _,[]=>true
 | o,c :: l=>bS c.1 && oZ c.2.1 && (match o with | none=>true | some p=>eK p.1 c.1) && tP (some c) l
noncomputable def dX (s:List bo):Bool:=tP none s && decide (s.length≤120)
section
variable {s:List bo} (hs : ∀ c∈s,c.2.1.size≤9223372036854775807) (hl:s.length≤1000000000)
include hs hl
theorem si : ∀(ys pre:List bo),s=pre++ys→iE s s (s.length:Int) (pre.length:Int)=some ((tP pre.getLast? ys && decide (s.length≤120),()),())
 | [],pre,h=>by
  rw[qq,aq (df h)]
  simp only[tP,P4]
  congr 3
  rw[R8,M9,M9]
  omega
 | y :: ys,pre,h=>by
  have hy:=hs y (by rw[h]; simp)
  have ih:=si ys (pre++[y]) (bh h)
  rw[aj_] at ih
  simp only[Y6,Option.or_some,Option.some_or] at ih
  rw[qq,av (bQ h),bG h,oQ]
  simp only[M0,tP]
  cases hr:bS y.1 with
  | false=>simp
  | true =>
   simp only[O5,M8,O0,P4]
   rcases aa_ pre with hp | ⟨q,z,hp⟩
   ·subst hp
    rw[aq (by simp),tO hy]
    simp only[M0,List.getLast?_nil,Z0]
    cases oZ y.2.1 with
    | false=>simp
    | true =>
     simp only[O5,M8,O0,P4]
     rw[aV (pre:=[]) h (by omega)]
     exact ih
   ·rw[ab_] at hp
    subst hp
    have hz:s=q++z :: (y :: ys):=by rw[h]; simp
    have hql:((q++[z]).length:Int) - 1=(q.length:Int):=by simp
    have hqs:q.length < s.length:=by rw[hz]; simp
    rw[av (by simp),hql,wr (by omega) (by omega),bG hz]
    obtain⟨k,k1,k2⟩:=xW z.1 y.1
    rw[k1]
    simp only[M0,aj_,Y6,Option.some_or]
    by_cases hk:k < 0
    ·rw[aq (by omega),tO hy,k2.1 hk]
     simp only[M0,Z0]
     cases oZ y.2.1 with
     | false=>simp
     | true =>
      simp only[O5,M8,O0,P4]
      rw[aV h (by omega)]
      exact ih
    ·have:eK z.1 y.1=false:=by
      rw[Bool.eq_false_iff]
      exact fun e=>hk (k2.2 e)
     rw[av (by omega),this]
     simp
theorem vh:rm s=some ((dX s,()),()):=by
 rw[Ed]
 exact si hs hl s [] rfl
end
theorem GD {x:L9}:oZ x=((k9 x).2 && !decide (x=eS) && decide ((k9 x).1=x)):=rfl
section
variable {s:List bo} (hs : ∀ c∈s,c.2.1.size≤9223372036854775807) (hl:s.length≤1000000000000)
include hs hl
theorem sj : ∀(ys pre:List bo),s=pre++ys→iC s (pre.length:Int)=some ((tP pre.getLast? ys,()),())
 | [],pre,h=>by
  rw[qo,aq (df h)]
  simp only[tP]
 | y :: ys,pre,h=>by
  have hy:=hs y (by rw[h]; simp)
  have ih:=sj ys (pre++[y]) (bh h)
  rw[aj_] at ih
  simp only[Y6,Option.or_some,Option.some_or] at ih
  rw[qo,av (bQ h),bG h,(Ij hy).2.1]
  simp only[M0]
  rw[bG h,lK]
  simp only[M0,tP,bG h,zz,GD]
  cases hr:bS y.1 with
  | false=>simp
  | true =>
   cases hi:(k9 y.2.1).2 with
   | false=>simp
   | true =>
    by_cases he:y.2.1=eS
    ·simp[he]
    ·by_cases hq:(k9 y.2.1).1=y.2.1
     ·rcases aa_ pre with hp | ⟨q,z,hp⟩
      ·subst hp
       rw[aV (pre:=[]) h (by omega)]
       simp[he,hq]
       exact ih
      ·rw[ab_] at hp
       subst hp
       have hz:s=q++z :: (y :: ys):=by rw[h]; simp
       have hql:((q++[z]).length:Int) - 1=(q.length:Int):=by simp
       have hqs:q.length < s.length:=by rw[hz]; simp
       rw[hql,wr (by omega) (by omega),bG hz,En,aV h (by omega)]
       simp only[M0,aj_,Y6,Option.some_or]
       rw[ih]
       cases ha:eK z.1 y.1 <;> simp[he,hq]
     ·simp[he,hq]
theorem vi:ri s=some ((dX s,()),()):=by
 rw[D5]
 by_cases h:s.length≤120
 ·rw[aq (by simp; omega)]
  have:=sj hs hl s [] rfl
  simp only[S4,Int.ofNat_zero,List.getLast?_nil] at this
  rw[this]
  simp[dX,h]
 ·rw[av (by simp; omega)]
  simp[dX,h]
end
theorem Ik {α:Type} {lt:α→α→Bool} (hi : ∀ x,lt x x=false) (ht : ∀ x y z,lt x y=true→lt y z=true→lt x z=true) : ∀ {l m:List α},(l.Pairwise fun a b=>lt a b=true)→(m.Pairwise fun a b=>lt a b=true)→(∀ x,x∈l↔x∈m)→l=m
 | [],[],_,_,_=>rfl
 | [],y :: m,_,_,h=>by have:=(h y).2 (by simp); cases this
 | x :: l,[],_,_,h=>by have:=(h x).1 (by simp); cases this
 | x :: l,y :: m,hl,hm,h=>by
  rw[T4] at hl hm
  have hxy:x=y:=by
   rcases O9.1 ((h x).1 (by simp)) with e | hx
   ·exact e
   ·rcases O9.1 ((h y).2 (by simp)) with e | hy
    ·exact e.symm
    ·have:=ht _ _ _ (hl.1 y hy) (hm.1 x hx)
     rw[hi] at this
     cases this
  subst hxy
  congr 1
  refine Ik hi ht hl.2 hm.2 fun z=>⟨fun hz => ?_,fun hz => ?_⟩
  ·rcases O9.1 ((h z).1 (N5 _ hz)) with e | hz'
   ·subst e
    have:=hl.1 z hz
    rw[hi] at this
    cases this
   ·exact hz'
  ·rcases O9.1 ((h z).2 (N5 _ hz)) with e | hz'
   ·subst e
    have:=hm.1 z hz
    rw[hi] at this
    cases this
   ·exact hz'
theorem tQ {a b:eB}:eK a b=true↔a.2.1 < b.2.1∨(a.2.1=b.2.1∧a.1 < b.1):=by
 unfold eK
 simp
theorem Eo {a b c:eB} (h:eK a b=true) (k:eK b c=true):eK a c=true:=by
 have:=tQ.1 h
 have:=tQ.1 k
 rw[tQ]
 omega
def JH (s:List bo):Prop:=s.Pairwise fun a b=>eK a.1 b.1=true
theorem E9 : ∀ {s:List bo} {o:Option bo},tP o s=true↔(∀ p,o=some p → ∀ c∈s,eK p.1 c.1=true)∧JH s ∧ ∀ c∈s,bS c.1=true∧oZ c.2.1=true
 | [],o=>by simp[tP,JH]
 | c :: l,o=>by
  have ih:=E9 (s:=l) (o:=some c)
  simp only[tP,M7,ih]
  constructor
  ·rintro⟨⟨⟨h1,h2⟩,h3⟩,h4,h5,h6⟩
   refine⟨?_,T4.2 ⟨fun d hd=>h4 c rfl d hd,h5⟩,?_⟩
   ·rintro p rfl d hd
    have h3:eK p.1 c.1=true:=h3
    rcases O9.1 hd with rfl | hd
    ·exact h3
    ·exact Eo h3 (h4 c rfl d hd)
   ·intro d hd
    rcases O9.1 hd with rfl | hd
    ·exact⟨h1,h2⟩
    ·exact h6 d hd
  ·rintro⟨h1,h2,h3⟩
   have h2:=T4.1 h2
   refine⟨⟨h3 c (by simp),?_⟩,?_,h2.2,fun d hd=>h3 d (N5 _ hd)⟩
   ·cases o with
    | none=>rfl
    | some p=>exact h1 p rfl c (by simp)
   ·rintro p hp d hd
    cases hp
    exact h2.1 d hd
theorem Ep {s:List bo}:dX s=true↔JH s∧(∀ c∈s,bS c.1=true∧oZ c.2.1=true)∧s.length≤120:=by
 unfold dX
 rw[M7,E9,M9]
 constructor
 ·rintro⟨⟨_,h1,h2⟩,h3⟩
  exact⟨h1,h2,h3⟩
 ·rintro⟨h1,h2,h3⟩
  exact⟨⟨(fun p hp=>by cases hp),h1,h2⟩,h3⟩
section
variable {α R:Type}
def py (p:α→Bool):List α→Nat→Int
 | [],_ => -1
 | c :: l,n=>if p c=true then(n:Int) else py p l (n+1)
theorem rP {p:α→Bool} {s:List α} {d:α} {P:Int→Option R} {F:Int→Option R} (hl:s.length≤1000000000000)
  (hP : ∀ j,P j=if decide (j < (s.length:Int))=true then ix s j d fun y=>if p y=true then F j else P (IntKind.i64.wrap (j+1)) else F (-1)) : ∀(ys pre:List α),s=pre++ys→P (pre.length:Int)=F (py p ys pre.length)
 | [],pre,h=>by
  rw[hP,aq (df h)]
  rfl
 | y :: ys,pre,h=>by
  have ih:=rP hl hP ys (pre++[y]) (bh h)
  rw[hP,av (bQ h),bG h,aV h (by omega),ih,M6,M3]
  show _=F (if p y=true then(pre.length:Int) else py p ys (pre.length+1))
  by_cases hp:p y=true
  ·rw[M5 hp,M5 hp]
  ·rw[M2 hp,M2 hp]
theorem Fa {p:α→Bool} : ∀ {l:List α} {n:Nat},py p l n ≠ -1 → ∃ pre x ys,l=pre++x :: ys∧p x=true∧(∀ c∈pre,p c=false)∧py p l n=((n+pre.length:Nat):Int)
 | [],_,e=>P1 rfl e
 | x :: l,n,e=>by
  unfold py at e ⊢
  by_cases hx:p x=true
  ·rw[M5 hx]
   exact⟨[],x,l,rfl,hx,(fun c h=>by cases h),rfl⟩
  ·rw[M2 hx] at e ⊢
   obtain⟨pre,z,ys,h1,h2,h3,h4⟩:=Fa e
   refine⟨x :: pre,z,ys,by rw[h1]; rfl,h2,?_,?_⟩
   ·intro c hc
    rcases O9.1 hc with rfl | hc
    ·simpa using hx
    ·exact h3 c hc
   ·rw[h4,N3]
    congr 1
    omega
end
section
variable {s:List bo} {r:eB} {x:L9} (hl:s.length≤1000000)
include hl
end
section
variable {α:Type}
theorem wk {p:α→Bool} : ∀(l:List α) (n:Nat),decide (py p l n≥0)=l.any p
 | [],n=>by
  show decide ((-1:Int)≥0)=false
  decide
 | c :: l,n=>by
  unfold py
  rw[List.any_cons]
  by_cases h:p c=true
  ·rw[M5 h,h,Bool.true_or]
   exact O6 (by omega)
  ·rw[M2 h,wk l (n+1)]
   simp[h]
end
section
variable {α:Type} [DecidableEq α]
def f8:List α→List α→List α
 | t,[]=>t
 | t,k :: ks=>if k∈t then f8 t ks else f8 (t++[k]) ks
theorem Il (t:List α) (k:α) (ks:List α):f8 t (k :: ks)=if k∈t then f8 t ks else f8 (t++[k]) ks:=rfl
theorem wl : ∀(ks t:List α),∃ ex,f8 t ks=t++ex
 | [],t=>⟨[],by simp[f8]⟩
 | k :: ks,t=>by
  unfold f8
  split
  ·exact wl ks t
  ·obtain⟨ex,h⟩:=wl ks (t++[k])
   exact⟨k :: ex,by rw[h]; simp⟩
theorem la : ∀(ks t:List α) (j:α),j∈f8 t ks↔j∈t∨j∈ks
 | [],t,j=>by simp[f8]
 | k :: ks,t,j=>by
  unfold f8
  by_cases hk:k∈t
  ·rw[M5 hk,la,O9]
   constructor
   ·rintro(e | e)
    ·exact .inl e
    ·exact .inr (.inr e)
   ·rintro(e | e | e)
    ·exact .inl e
    ·rw[e]
     exact .inl hk
    ·exact .inr e
  ·rw[M2 hk,la,List.mem_append,P0,O9,or_assoc]
theorem mH : ∀(ks t:List α),t.Nodup→(f8 t ks).Nodup
 | [],t,h=>h
 | k :: ks,t,h=>by
  unfold f8
  by_cases hk:k∈t
  ·rw[M5 hk]
   exact mH ks t h
  ·rw[M2 hk]
   refine mH ks _ ?_
   rw[List.nodup_append]
   refine⟨h,by simp,fun a ha b hb => ?_⟩
   rw[P0.1 hb]
   exact fun e=>hk (e ▸ ha)
theorem lP : ∀(l m:List α),l.Nodup→(∀ x∈l,x∈m)→l.length≤m.length
 | [],m,_,_=>Nat.zero_le _
 | a :: l,m,hd,h=>by
  have hd:=List.nodup_cons.1 hd
  have ha:=h a (by simp)
  have h1:=lP l (m.erase a) hd.2 (fun x hx=>(List.mem_erase_of_ne (a:=x) (b:=a) (fun e:x=a=>hd.1 (e ▸ hx))).2 (h x (N5 _ hx)))
  rw[List.length_erase_of_mem ha] at h1
  have:1≤m.length:=List.length_pos_of_mem ha
  rw[N3]
  omega
end
end Go.Proofs.YtfffplonjaigkaaGreatDoor.Abs
