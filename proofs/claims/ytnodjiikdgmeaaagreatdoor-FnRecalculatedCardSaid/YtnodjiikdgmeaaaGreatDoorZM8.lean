/- Plain laws: a formula's text. -/
import Derived.Test.YtnodjiikdgmeaaaGreatDoorZM7
import Derived.Lib.SplitLaws
import Derived.Test.YtnodjiikdgmeaaaGreatDoorZM5
set_option linter.unusedVariables false
set_option linter.unusedSimpArgs false
set_option linter.unusedSectionVars false
namespace Go.Proofs.YtnodjiikdgmeaaaGreatDoor.Abs
open Go
def qT:ag→ag
 | []=>[]
 | c :: l=>if c=34 then 34 :: 34 :: qT l else c :: qT l
theorem Ug : ∀ l:ag,(qT l).length≤2*l.length
 | []=>by simp[qT]
 | c :: l=>by
  have:=Ug l
  unfold qT
  split <;> simp only[List.length_cons] <;> omega
theorem Nj (l:ag) : ∀ pre:ag,(34:UInt8) ∉ pre→qT (pre++l)=pre++qT l
 | [],_=>rfl
 | c :: pre,h=>by
  simp only[List.mem_cons,not_or] at h
  rw[List.cons_append,qT,if_neg (fun e=>h.1 e.symm),Nj l pre h.2]
  rfl
theorem R8 : ∀(n:Nat) (l:ag),l.length=n→Lib.replaceK [34] [34,34] (l.count 34) l=qT l:=by
 intro n
 induction n using Nat.strongRecOn with
 | ind n ih =>
  intro l hn
  by_cases hm:(34:UInt8)∈l
  ·obtain⟨pre,t,rfl,h2⟩:=Fv 34 l hm
   have hc:(pre++34 :: t).count 34=t.count 34+1:=by
    rw[List.count_append,List.count_eq_zero.2 h2,List.count_cons_self]
    omega
   have hi:Lib.index (pre++34 :: t) [34]=(pre.length:Nat):=by rw[Lib.index_one,Iq 34 t pre h2]
   rw[hc,Lib.replaceK_hit _ _ _ _ _ hi,List.take_left' rfl,Nj _ pre h2]
   have hd:(pre++34 :: t).drop (pre.length+([34]:ag).length)=t:=by
    have:pre++34 :: t=(pre++[34])++t:=by simp
    rw[this,List.drop_left' (by simp)]
   rw[hd,ih t.length (by rw[←hn]; simp; omega) t rfl]
   simp[qT]
  ·rw[List.count_eq_zero.2 hm]
   have:=Nj [] l hm
   rw[List.append_nil] at this
   rw[this]
   simp[qT,Lib.replaceK]
theorem OS {l:ag} (hl:l.length≤1000000):strings_ReplaceAll (ba l) (⟨#[34]⟩:ByteArray) (⟨#[34,34]⟩:ByteArray)=some ((ba (qT l),()),()):=by
 rw[yB]
 have hcount:Lib.countB (ba l) (ba [34])=l.count 34:=by
  show Lib.count (lb (ba l)) (lb (ba [34]))=_
  rw[dP,dP,Lib.count_one]
 have hle:l.count 34≤l.length:=List.count_le_length
 show(if(ba l).size < 4294967281∧1≤(ba [34]).size∧(ba l).size+Lib.countB (ba l) (ba [34])*(ba [34,34]).size≤140737488355328 then some (((⟨(Lib.replaceAll (lb (ba l)) (lb (ba [34])) (lb (ba [34,34]))).toArray⟩:ByteArray),()),()) else none)=_
 rw[if_pos ⟨by rw[ay]; omega,by decide,by rw[hcount,ay,ay]; simp only[List.length_cons,List.length_nil]; omega⟩,dP,dP,dP]
 congr 3
 show ba (Lib.replaceAll l [34] [34,34])=_
 unfold Lib.replaceAll Lib.replace Lib.replaceNum
 rw[if_neg (by decide),if_pos (.inl (by decide)),Lib.count_one,R8 _ l rfl]
theorem xB {s:ag} (hs:s.length≤1000000) : ∀(l acc:ag),l <:+ s→acc.length+2*l.length≤4000000→ob (ba s) (ba acc) (bT s l)=some ((ba (acc++qT l++[34]),()),())
 | [],acc,h,ha=>by
  rw[yH,ax (by rw[ay]; unfold bT; simp),show(⟨#[34]⟩:ByteArray)=ba [34] from rfl,bF (by simp only[List.length_singleton]; simp at ha; omega)]
  simp[qT]
 | c :: l,acc,h,ha=>by
  obtain⟨pre,h1,h2⟩:=o0 h
  have hl:pre.length+l.length+1=s.length:=by rw[h1]; simp; omega
  rw[List.length_cons] at ha
  have h':l <:+ s:=ak ⟨[c],rfl⟩ h
  have e1:(pre.length:Int)+1=bT s l:=by
   unfold bT
   omega
  have e3:(s.take (pre.length+1)).drop pre.length=[c]:=by
   rw[h1,List.take_append,List.drop_append]
   simp
  rw[yH,h2,aF (by rw[ay]; omega),ly h1,Fm c 34 (n:=34) rfl,wr (by omega) (by omega),show(pre.length:Int)+1=((pre.length+1:Nat):Int) by omega,yV (by omega) (by omega),e3]
  by_cases hc:c=34
  ·subst hc
   rw[aF rfl,show(⟨#[34]⟩:ByteArray)=ba [34] from rfl,bF (by simp only[List.length_singleton]; omega),yV (by omega) (by omega),e3,bF (by simp only[List.length_append,List.length_singleton]; omega),show((pre.length+1:Nat):Int)=bT s l by omega,xB hs l _ h' (by simp only[List.length_append,List.length_singleton]; omega)]
   simp[qT]
  ·rw[ax hc,bF (by simp only[List.length_singleton]; omega),show((pre.length+1:Nat):Int)=bT s l by omega,xB hs l _ h' (by simp only[List.length_append,List.length_singleton]; omega)]
   simp[qT,hc]
theorem Uh {l:ag} (hl:l.length≤1000000):E1 (ba l)=some ((ba (34 :: (qT l++[34])),()),()):=by
 rw[Oq,show(⟨#[34]⟩:ByteArray)=ba [34] from rfl]
 have:=xB hl l [34] (pc l) (by simp only[List.length_singleton]; omega)
 rw[YB] at this
 rw[this]
 simp
def cb:List ag→ag
 | []=>[]
 | [x]=>x
 | x :: y :: l=>x++44 :: cb (y :: l)
def bM (f:List aa):Nat→Int→Int→ag
 | 0,_,_=>[]
 | n+1,k,L =>
  let x:=cm f k
  if x.1=1 then(if x.2.2.1.1=2 then 34 :: (qT (lb x.2.2.1.2.2.1)++[34]) else lb (cB x.2.2.1))
  else if x.1=2 then fz x.2.2.2.1
  else if x.1=3 then fz x.2.2.2.1++58 :: fz x.2.2.2.2.1
  else if x.1=4 then 45 :: bM f n (x.2.2.2.2.2.1.getD 0 0) 5
  else if x.1=5 then
   let b:=bM f n (x.2.2.2.2.2.1.getD 0 0) (cn x.2.1)++(du x.2.1++bM f n (x.2.2.2.2.2.1.getD 1 0) (cn x.2.1+1))
   if cn x.2.1 < L then 40 :: (b++[41]) else b
  else dM x.2.1++40 :: (cb (x.2.2.2.2.2.1.map fun k=>bM f n k 1)++[41])
theorem Ez : ∀ l:List ag,cb l=Lib.join l [44]
 | []=>rfl
 | [x]=>by rw[Lib.join_one]; rfl
 | x :: y :: l=>by
  rw[cb,Ez (y :: l),Lib.join_cons,Lib.join_cons]
  simp[Lib.joinTail]
theorem EA (x:ag) : ∀(l:List ag),l≠[]→cb (l++[x])=cb l++44 :: x
 | [y],_=>rfl
 | y :: z :: l,_=>by
  show y++44 :: cb (z :: l++[x])=(y++44 :: cb (z :: l))++44 :: x
  rw[EA x (z :: l) (by simp)]
  simp
theorem Hk : ∀ l:List ag,(cb l).length≤(l.map List.length).sum+l.length
 | []=>by simp[cb]
 | [x]=>by simp[cb]
 | x :: y :: l=>by
  have:=Hk (y :: l)
  simp only[cb,List.length_append,List.length_cons,List.map_cons,List.sum_cons] at this ⊢
  omega
theorem Wd {xs:List ag} (h1:xs.length≤1000) (h2:(cb xs).length≤10000000):strings_Join (xs.map fun x=>ba x) (⟨#[44]⟩:ByteArray)=some ((ba (cb xs),()),()):=by
 rw[GP]
 have e:(xs.map fun x=>ba x).map (·.data.toList)=xs:=by
  rw[List.map_map]
  conv=>rhs; rw[←List.map_id xs]
  apply List.map_congr_left
  intro x _
  exact dP x
 show(if(xs.map fun x=>ba x).length≤140737488355328∧(Lib.join ((xs.map fun x=>ba x).map (·.data.toList)) (lb (ba [44]))).length≤140737488355328 then some (((⟨(Lib.join ((xs.map fun x=>ba x).map (·.data.toList)) (lb (ba [44]))).toArray⟩:ByteArray),()),()) else none)=_
 rw[e,dP,←Ez,if_pos ⟨by rw[List.length_map]; omega,by omega⟩]
theorem Dx {p:bJ} (h:bK p.1=true):(fz p).length≤6:=by
 obtain⟨c,r,fc,fr,rfl,h1,h2,h3,h4⟩:=w9 h
 have k1:=rx c
 have k2:=um h4
 show(tK c r fc fr).length≤6
 unfold tK qE
 simp only[List.length_append]
 cases fc <;> cases fr <;> simp <;> omega
theorem P0 (k:Int):(dM k).length≤5:=by
 unfold dM
 by_cases hi:k.toNat < 11
 ·have h : ∀ j:Fin 11,(([[],[83,85,77],[77,73,78],[77,65,88],[67,79,85,78,84],[73,70],[65,78,68],[79,82],[78,79,84],[65,66,83],[76,69,78]]:List ag).getD j.val []).length≤5:=by decide
  exact h ⟨k.toNat,hi⟩
 ·rw[List.getD_eq_getElem?_getD,List.getElem?_eq_none (by simp; omega)]
  simp
theorem Nk {c:Int→Option (Int×Nat)} {f:List aa} {call:Bool} : ∀(l:List Int) (cur:Int) (h:Nat) (s:Int) (h':Nat),fB c f call l cur h=some (s,h') →
  (∀ kid∈l,∃ p,c kid=some p) ∧ ∀ g:Int→Nat,(∀ kid s' h'',c kid=some (s',h'')→(g kid:Int)≤1000*(kid - s'+1))→(((l.map g).sum:Nat):Int)≤1000*(cur - s)
 | [],cur,h,s,h',e=>by
  simp only[fB,Option.some.injEq,Prod.mk.injEq] at e
  obtain⟨rfl,_⟩:=e
  exact⟨fun _ h=>by simp at h,fun g _=>by simp⟩
 | kid :: l,cur,h,s,h',e=>by
  simp only[fB] at e
  split at e
  ·rename_i hk
   rw[Option.bind_eq_some_iff] at e
   obtain⟨p,hp,e⟩:=e
   obtain⟨k1,k2⟩:=Nk l p.1 _ s h' e
   refine⟨fun kid' hm => ?_,fun g hg => ?_⟩
   ·rcases List.mem_cons.1 hm with rfl | hm
    ·exact⟨p,hp⟩
    ·exact k1 kid' hm
   ·have h1:=k2 g hg
    have h2:=hg kid p.1 p.2 hp
    have:=hk.1
    simp only[List.map_cons,List.sum_cons]
    omega
  ·cases e
section
variable {f:List aa}
theorem Hl (n:Nat) (k:Int):bM f n k 0=bM f n k 1:=by
 cases n with
 | zero=>rfl
 | succ n =>
  have hlv : ∀ j,¬cn j < 0 ∧ ¬cn j < 1:=by
   intro j
   unfold cn
   constructor <;> (repeat' split) <;> omega
  unfold bM
  simp only[(hlv _).1,(hlv _).2,if_false]
def R9 (f:List aa) (n:Nat) (k:Int):Prop := ∀ L:Int,gH f k L=some ((ba (bM f n k L),()),())∧nh f k L=some ((ba (bM f n k L),()),())
theorem Hm {n:Nat} {kids:List Int} {a op:Int} {v:ab} {A B:bJ} {kids':List Int} (hop:0≤op∧op≤10) (hl:kids.length≤10) (hk : ∀ k∈kids,R9 f n k) (hlen:(cb (kids.map fun k=>bM f n k 1)).length≤1000000) : ∀(ys pre:List Int),kids=pre++ys →
  k7 f kids (kids.length:Int) (pre.length:Int) a op v A B kids' ((pre.map fun k=>bM f n k 1).map fun x=>ba x)=some ((ba (dM op++40 :: (cb (kids.map fun k=>bM f n k 1)++[41])),()),())
 | [],pre,h=>by
  rw[List.append_nil] at h
  subst h
  have hf:=P0 op
  rw[qS,ax (Int.lt_irrefl _),Hg hop.1 hop.2]
  simp only[Option.bind_some]
  rw[show(⟨#[40]⟩:ByteArray)=ba [40] from rfl,bF (by simp only[List.length_singleton]; omega),Wd (by rw[List.length_map]; omega) (by omega)]
  simp only[Option.bind_some]
  rw[bF (by simp only[List.length_append,List.length_singleton]; omega),show(⟨#[41]⟩:ByteArray)=ba [41] from rfl,bF (by simp only[List.length_append,List.length_singleton]; omega)]
  simp
 | y :: ys,pre,h=>by
  rw[qS,aF (bH h),bC h,(hk y (by rw[h]; simp) 1).1]
  simp only[Option.bind_some]
  have hpl:pre.length≤10:=by
   have:=congrArg List.length h
   simp at this
   omega
  rw[bp (by simp only[List.length_map,List.length_singleton]; omega),aO h (by omega)]
  have:=Hm (a:=a) (v:=v) (A:=A) (B:=B) (kids':=kids') hop hl hk hlen ys (pre++[y]) (av h)
  rw[List.map_append,List.map_append] at this
  exact this
theorem Hn {n:Nat} {kids:List Int} {a op:Int} {v:ab} {A B:bJ} (hl:kids.length≤10) (hk : ∀ k∈kids,R9 f n k) (hlen : ∀ pre ys:List Int,kids=pre++ys→(cb (pre.map fun k=>bM f n k 1)).length≤1000000) (hop:(dM op).length≤5) : ∀(ys pre:List Int),kids=pre++ys →
  oc f (ba (dM op++40 :: cb (pre.map fun k=>bM f n k 1))) (pre.length:Int) a op v A B kids=some ((ba (dM op++40 :: (cb (kids.map fun k=>bM f n k 1)++[41])),()),())
 | [],pre,h=>by
  have h0:=hlen pre [] h
  rw[List.append_nil] at h
  subst h
  rw[yI,ax (Int.lt_irrefl _),show(⟨#[41]⟩:ByteArray)=ba [41] from rfl,bF (by simp only[List.length_append,List.length_cons,List.length_nil]; omega)]
  simp
 | y :: ys,pre,h=>by
  have h0:=hlen pre (y :: ys) h
  have h1:=hlen (pre++[y]) ys (av h)
  have hpl:pre.length≤10:=by
   have:=congrArg List.length h
   simp at this
   omega
  have ih:=Hn (a:=a) (v:=v) (A:=A) (B:=B) hl hk hlen hop ys (pre++[y]) (av h)
  rw[List.map_append,List.map_singleton] at ih h1
  rw[yI,aF (bH h)]
  by_cases hp:pre=[]
  ·subst hp
   simp only[List.nil_append,List.map_nil,cb] at ih h1 ⊢
   rw[ax (by simp),bC (pre:=[]) h,(hk y (by rw[h]; simp) 0).2,Hl]
   simp only[Option.bind_some]
   rw[bF (by simp only[List.length_append,List.length_cons,List.length_nil]; omega),aO (pre:=[]) h (by omega)]
   have e:dM op++[40]++bM f n y 1=dM op++40 :: bM f n y 1:=by simp
   rw[e]
   exact ih
  ·have hpos:=List.length_pos_iff.2 hp
   rw[EA _ _ (by simpa using hp)] at ih h1
   simp only[List.length_append,List.length_cons] at h1
   rw[aF (by omega),show(⟨#[44]⟩:ByteArray)=ba [44] from rfl,bF (by simp only[List.length_append,List.length_cons,List.length_nil]; omega),bC h,(hk y (by rw[h]; simp) 0).2,Hl]
   simp only[Option.bind_some]
   rw[bF (by simp only[List.length_append,List.length_cons,List.length_nil]; omega),aO h (by omega)]
   have e:dM op++40 :: cb (pre.map fun k=>bM f n k 1)++[44]++bM f n y 1=dM op++40 :: (cb (pre.map fun k=>bM f n k 1)++44 :: bM f n y 1):=by simp
   rw[e]
   exact ih
end
section
variable {f:List aa}
theorem YC {l:List Int} (h:l.length=2) : ∃ a b,l=[a,b]:=by
 match l,h with
 | [a,b],_=>exact⟨a,b,rfl⟩
theorem Ix (hf:f.length≤60) : ∀(n:Nat) (k s:Int) (h:Nat),dV f n k=some (s,h)→R9 f n k ∧ ∀ L:Int,((bM f n k L).length:Int)≤1000*(k - s+1)
 | 0,k,s,h,e=>by simp[dV] at e
 | n+1,k,s,h,e=>by
  have hall:=fX f (n+1) k s h e
  obtain⟨hs0,hsk,_⟩:=hall
  have IH:=Ix hf n
  simp only[dV] at e
  split at e
  ·rename_i h0
   split at e
   ·cases e
   ·rename_i x hx
    split at e
    ·rename_i hok
     obtain⟨q1,q2⟩:=Nk _ _ _ _ _ e
     have hkl:k < 60:=by
      have:=(List.getElem?_eq_some_iff.1 hx).1
      omega
     have hK : ∀ kid∈x.2.2.2.2.2.1,R9 f n kid ∧ ∃ s' h',dV f n kid=some (s',h'):=by
      intro kid hm
      obtain⟨p,hp⟩:=q1 kid (List.mem_reverse.2 hm)
      exact⟨(IH kid p.1 p.2 hp).1,p.1,p.2,hp⟩
     have hnode:cm f k=x:=by
      unfold cm
      rw[List.getD_eq_getElem?_getD,hx]
      rfl
     have hfx : ∀ L,bM f (n+1) k L=(if x.1=1 then(if x.2.2.1.1=2 then 34 :: (qT (lb x.2.2.1.2.2.1)++[34]) else lb (cB x.2.2.1))
      else if x.1=2 then fz x.2.2.2.1
      else if x.1=3 then fz x.2.2.2.1++58 :: fz x.2.2.2.2.1
      else if x.1=4 then 45 :: bM f n (x.2.2.2.2.2.1.getD 0 0) 5
      else if x.1=5 then(if cn x.2.1 < L then 40 :: ((bM f n (x.2.2.2.2.2.1.getD 0 0) (cn x.2.1)++(du x.2.1++bM f n (x.2.2.2.2.2.1.getD 1 0) (cn x.2.1+1)))++[41]) else(bM f n (x.2.2.2.2.2.1.getD 0 0) (cn x.2.1)++(du x.2.1++bM f n (x.2.2.2.2.2.1.getD 1 0) (cn x.2.1+1))))
      else dM x.2.1++40 :: (cb (x.2.2.2.2.2.1.map fun k=>bM f n k 1)++[41])):=by
      intro L
      conv=>lhs; unfold bM
      rw[hnode]
     have hI : ∀ L,gH f k L=_:=fun L=>(GO (x0:=f) (x1:=k) (x2:=L)).trans (ca h0 hx)
     have hS : ∀ L,nh f k L=_:=fun L=>(Q0 (x0:=f) (x1:=k) (x2:=L)).trans (ca h0 hx)
     unfold df kl at hok
     by_cases c1:x.1=1
     ·rw[if_pos c1] at hok
      simp only[Bool.and_eq_true,decide_eq_true_eq] at hok
      have hv:=hok.1.1.2
      have hsz:=dj hv
      have b1:(x.1 == 1)=true:=by rw[c1]; rfl
      by_cases c2:x.2.2.1.1=2
      ·have b2:(x.2.2.1.1 == 2)=true:=by rw[c2]; rfl
       have hlb:(lb x.2.2.1.2.2.1).length≤200:=by rw[jy]; exact hsz
       have hq:=Ug (lb x.2.2.1.2.2.1)
       have ea : ∀ L,bM f (n+1) k L=34 :: (qT (lb x.2.2.1.2.2.1)++[34]):=fun L=>by rw[hfx,if_pos c1,if_pos c2]
       refine⟨fun L=>⟨?_,?_⟩,fun L => ?_⟩
       ·rw[hI,if_pos b1,if_pos b2,←eO x.2.2.1.2.2.1,OS (by omega)]
        simp only[Option.bind_some]
        rw[show(⟨#[34]⟩:ByteArray)=ba [34] from rfl,bF (by simp only[List.length_singleton]; omega),bF (by simp only[List.length_append,List.length_singleton]; omega),ea]
        simp
       ·rw[hS,if_pos b1,if_pos b2,←eO x.2.2.1.2.2.1,Uh (by omega)]
        simp only[Option.bind_some]
        rw[ea]
       ·rw[ea]
        simp only[List.length_cons,List.length_append,List.length_nil]
        omega
      ·have b2 : ¬(x.2.2.1.1 == 2)=true:=by simpa using c2
       have hvs:=JM hv
       have ea : ∀ L,bM f (n+1) k L=lb (cB x.2.2.1):=fun L=>by rw[hfx,if_pos c1,if_neg c2]
       refine⟨fun L=>⟨?_,?_⟩,fun L => ?_⟩
       ·rw[hI,if_pos b1,if_neg b2,tv hv,ea,eO]
        rfl
       ·rw[hS,if_pos b1,if_neg b2,gd (da hv),if_pos hv,ea,eO]
        rfl
       ·rw[ea,jy]
        omega
     rw[if_neg c1] at hok
     have b1 : ¬(x.1 == 1)=true:=by simpa using c1
     by_cases c2:x.1=2
     ·rw[if_pos c2] at hok
      simp only[Bool.and_eq_true,decide_eq_true_eq] at hok
      have b2:(x.1 == 2)=true:=by rw[c2]; rfl
      have hr:=hok.2
      have hp:=Dx hr
      have ea : ∀ L,bM f (n+1) k L=fz x.2.2.2.1:=fun L=>by rw[hfx,if_neg c1,if_pos c2]
      refine⟨fun L=>⟨?_,?_⟩,fun L => ?_⟩
      ·rw[hI,if_neg b1,if_pos b2,oG,if_pos hr,ea]
       rfl
      ·rw[hS,if_neg b1,if_pos b2,oH,if_pos hr,ea]
       rfl
      ·rw[ea]
       omega
     rw[if_neg c2] at hok
     have b2 : ¬(x.1 == 2)=true:=by simpa using c2
     by_cases c3:x.1=3
     ·rw[if_pos c3] at hok
      simp only[Bool.and_eq_true,decide_eq_true_eq] at hok
      have b3:(x.1 == 3)=true:=by rw[c3]; rfl
      have ha:=hok.2
      unfold lw at ha
      simp only[Bool.and_eq_true,decide_eq_true_eq] at ha
      have hr1:=ha.1.1.1
      have hr2:=ha.1.1.2
      have hp1:=Dx hr1
      have hp2:=Dx hr2
      have ea : ∀ L,bM f (n+1) k L=fz x.2.2.2.1++58 :: fz x.2.2.2.2.1:=fun L=>by rw[hfx,if_neg c1,if_neg c2,if_pos c3]
      refine⟨fun L=>⟨?_,?_⟩,fun L => ?_⟩
      ·rw[hI,if_neg b1,if_neg b2,if_pos b3,oG,if_pos hr1]
       simp only[Option.bind_some]
       rw[show(⟨#[58]⟩:ByteArray)=ba [58] from rfl,bF (by simp only[List.length_singleton]; omega),oG,if_pos hr2]
       simp only[Option.bind_some]
       rw[bF (by simp only[List.length_append,List.length_singleton]; omega),ea]
       simp
      ·rw[hS,if_neg b1,if_neg b2,if_pos b3,oH,if_pos hr1]
       simp only[Option.bind_some]
       rw[show(⟨#[58]⟩:ByteArray)=ba [58] from rfl,bF (by simp only[List.length_singleton]; omega),oH,if_pos hr2]
       simp only[Option.bind_some]
       rw[bF (by simp only[List.length_append,List.length_singleton]; omega),ea]
       simp
      ·rw[ea]
       simp only[List.length_append,List.length_cons]
       omega
     rw[if_neg c3] at hok
     have b3 : ¬(x.1 == 3)=true:=by simpa using c3
     by_cases c4:x.1=4
     ·rw[if_pos c4] at hok
      simp only[Bool.and_eq_true,decide_eq_true_eq] at hok
      have b4:(x.1 == 4)=true:=by rw[c4]; rfl
      obtain⟨a,hkids⟩ : ∃ a,x.2.2.2.2.2.1=[a]:=List.length_eq_one_iff.1 (by omega)
      obtain⟨hka,sa,ha,hca⟩:=hK a (by rw[hkids]; simp)
      rw[hkids] at e q2 hI hS hfx
      have hla:=fun L=>(IH a sa ha hca).2 L
      simp only[List.reverse_singleton,fB] at e
      split at e
      ·rename_i hc
       rw[hca] at e
       simp only[Option.bind_some,Option.some.injEq,Prod.mk.injEq] at e
       obtain⟨rfl,_⟩:=e
       have ea : ∀ L,bM f (n+1) k L=45 :: bM f n a 5:=fun L=>by rw[hfx,if_neg c1,if_neg c2,if_neg c3,if_pos c4]; rfl
       have h5:=hla 5
       refine⟨fun L=>⟨?_,?_⟩,fun L => ?_⟩
       ·rw[hI,if_neg b1,if_neg b2,if_neg b3,if_pos b4,ca (y:=a) (by decide) rfl,(hka 5).1]
        simp only[Option.bind_some]
        rw[show(⟨#[45]⟩:ByteArray)=ba [45] from rfl,bF (by simp only[List.length_singleton]; omega),ea]
        rfl
       ·rw[hS,if_neg b1,if_neg b2,if_neg b3,if_pos b4,ca (y:=a) (by decide) rfl,(hka 5).2]
        simp only[Option.bind_some]
        rw[show(⟨#[45]⟩:ByteArray)=ba [45] from rfl,bF (by simp only[List.length_singleton]; omega),ea]
        rfl
       ·rw[ea]
        simp only[List.length_cons]
        omega
      ·cases e
     rw[if_neg c4] at hok
     have b4 : ¬(x.1 == 4)=true:=by simpa using c4
     by_cases c5:x.1=5
     ·rw[if_pos c5] at hok
      simp only[Bool.and_eq_true,decide_eq_true_eq] at hok
      have b5:(x.1 == 5)=true:=by rw[c5]; rfl
      obtain⟨o1,o2⟩:=bu.1 hok.1.1.1.1
      obtain⟨a,b,hkids⟩ : ∃ a b,x.2.2.2.2.2.1=[a,b]:=YC (by omega)
      obtain⟨hka,sa,ha,hca⟩:=hK a (by rw[hkids]; simp)
      obtain⟨hkb,sb,hb,hcb⟩:=hK b (by rw[hkids]; simp)
      rw[hkids] at e q2 hI hS hfx
      have hla:=fun L=>(IH a sa ha hca).2 L
      have hlb:=fun L=>(IH b sb hb hcb).2 L
      have hsa:=fX f n a sa ha hca
      have hsb:=fX f n b sb hb hcb
      simp only[List.reverse_cons,List.reverse_nil,List.nil_append,List.cons_append,fB] at e
      split at e
      ·rename_i hc
       rw[hcb] at e
       simp only[Option.bind_some] at e
       split at e
       ·rename_i hc2
        rw[hca] at e
        simp only[Option.bind_some,Option.some.injEq,Prod.mk.injEq] at e
        obtain⟨rfl,_⟩:=e
        have hlv:1≤cn x.2.1∧cn x.2.1≤4:=by
         unfold cn
         constructor <;> (repeat' split) <;> omega
        have ho:=zf x.2.1
        have h1:=hla (cn x.2.1)
        have h2:=hlb (cn x.2.1+1)
        have i1:=hsa.2.1
        have i2:=hsb.2.1
        have ea : ∀ L,bM f (n+1) k L=if cn x.2.1 < L then 40 :: ((bM f n a (cn x.2.1)++(du x.2.1++bM f n b (cn x.2.1+1)))++[41]) else(bM f n a (cn x.2.1)++(du x.2.1++bM f n b (cn x.2.1+1))):=fun L=>by rw[hfx,if_neg c1,if_neg c2,if_neg c3,if_neg c4,if_pos c5]; rfl
        refine⟨fun L=>⟨?_,?_⟩,fun L => ?_⟩
        ·rw[hI,if_neg b1,if_neg b2,if_neg b3,if_neg b4,if_pos b5,JY o1 o2]
         simp only[Option.bind_some]
         rw[ca (y:=a) (by decide) rfl,(hka _).1]
         simp only[Option.bind_some]
         rw[Ay (by omega) o2]
         simp only[Option.bind_some]
         rw[bF (by omega),ca (y:=b) (by decide) rfl,wr (by omega) (by omega),(hkb _).1]
         simp only[Option.bind_some]
         rw[bF (by simp only[List.length_append]; omega),ea]
         by_cases hL:cn x.2.1 < L
         ·rw[aF hL,if_pos hL,show(⟨#[40]⟩:ByteArray)=ba [40] from rfl,bF (by simp only[List.length_append,List.length_singleton]; omega),show(⟨#[41]⟩:ByteArray)=ba [41] from rfl,bF (by simp only[List.length_append,List.length_singleton]; omega)]
          simp
         ·rw[ax hL,if_neg hL]
          simp
        ·rw[hS,if_neg b1,if_neg b2,if_neg b3,if_neg b4,if_pos b5,xA]
         simp only[Option.bind_some]
         rw[ca (y:=a) (by decide) rfl,(hka _).2]
         simp only[Option.bind_some]
         rw[uo (by omega) o2]
         simp only[Option.bind_some]
         rw[bF (by omega),ca (y:=b) (by decide) rfl,wr (by omega) (by omega),(hkb _).2]
         simp only[Option.bind_some]
         rw[bF (by simp only[List.length_append]; omega),ea]
         by_cases hL:cn x.2.1 < L
         ·rw[aF hL,if_pos hL,show(⟨#[40]⟩:ByteArray)=ba [40] from rfl,bF (by simp only[List.length_append,List.length_singleton]; omega),show(⟨#[41]⟩:ByteArray)=ba [41] from rfl,bF (by simp only[List.length_append,List.length_singleton]; omega)]
          simp
         ·rw[ax hL,if_neg hL]
          simp
        ·rw[ea]
         split <;> simp only[List.length_append,List.length_cons,List.length_nil] <;> omega
       ·cases e
      ·cases e
     rw[if_neg c5] at hok
     have b5 : ¬(x.1 == 5)=true:=by simpa using c5
     by_cases c6:x.1=6
     ·rw[if_pos c6] at hok
      simp only[Bool.and_eq_true,decide_eq_true_eq] at hok
      have hargs:=hok.1.1.1
      have hkn:1≤x.2.2.2.2.2.1.length∧x.2.2.2.2.2.1.length≤10∧0≤x.2.1∧x.2.1≤10:=by
       unfold kG at hargs
       split at hargs
       ·simp only[Bool.or_eq_true,decide_eq_true_eq] at hargs
        omega
       ·split at hargs
        ·rename_i hi
         have:=bu.1 hi
         have:=bu.1 hargs
         omega
        ·split at hargs
         ·rename_i hi
          have:=bu.1 hi
          simp only[decide_eq_true_eq] at hargs
          omega
         ·cases hargs
      have hg:=q2 (fun kid=>(bM f n kid 1).length) (fun kid s' h'' hc=>(IH kid s' h'' hc).2 1)
      rw[List.map_reverse,List.sum_reverse] at hg
      have hfn:=P0 x.2.1
      have hcl : ∀ l:List Int,(cb (l.map fun k=>bM f n k 1)).length≤(l.map fun k=>(bM f n k 1).length).sum+l.length:=by
       intro l
       have:=Hk (l.map fun k=>bM f n k 1)
       rw[List.map_map,List.length_map] at this
       exact this
      have hc0:=hcl x.2.2.2.2.2.1
      have ea : ∀ L,bM f (n+1) k L=dM x.2.1++40 :: (cb (x.2.2.2.2.2.1.map fun k=>bM f n k 1)++[41]):=fun L=>by rw[hfx,if_neg c1,if_neg c2,if_neg c3,if_neg c4,if_neg c5]
      refine⟨fun L=>⟨?_,?_⟩,fun L => ?_⟩
      ·rw[hI,if_neg b1,if_neg b2,if_neg b3,if_neg b4,if_neg b5,ea]
       exact Hm ⟨hkn.2.2.1,hkn.2.2.2⟩ hkn.2.1 (fun k hk=>(hK k hk).1) (by omega) _ [] rfl
      ·rw[hS,if_neg b1,if_neg b2,if_neg b3,if_neg b4,if_neg b5,Na hkn.2.2.1 hkn.2.2.2]
       simp only[Option.bind_some]
       rw[show(⟨#[40]⟩:ByteArray)=ba [40] from rfl,bF (by simp only[List.length_singleton]; omega),ea]
       refine Hn hkn.2.1 (fun k hk=>(hK k hk).1) (fun pre ys hpy => ?_) hfn _ [] rfl
       have h1:=hcl pre
       have h2:(pre.map fun k=>(bM f n k 1).length).sum≤(x.2.2.2.2.2.1.map fun k=>(bM f n k 1).length).sum:=by
        rw[hpy,List.map_append,List.sum_append]
        omega
       have h3:=congrArg List.length hpy
       rw[List.length_append] at h3
       omega
      ·rw[ea]
       simp only[List.length_append,List.length_cons,List.length_nil]
       omega
     ·rw[if_neg c6] at hok
      cases hok
    ·cases e
  ·cases e
theorem Iy (hl:f.length≤10000000) (hs : ∀ x∈f,x.2.2.1.2.2.1.size≤9223372036854775807) (hk : ∀ x∈f,x.2.2.2.2.2.1.length≤10000000) : ∃ t:ag,qe f=some ((ba t,()),())∧p9 f=some ((ba t,()),())∧t.length≤200:=by
 rw[wK,wH,jx hl hs hk,lx hl hs hk]
 simp only[Option.bind_some]
 cases ho:eH f with
 | false=>exact⟨[],rfl,rfl,by simp⟩
 | true =>
  simp only[Bool.not_true,Bool.false_eq_true,if_false]
  have ho':=ho
  unfold eH at ho'
  rw[Bool.and_eq_true] at ho'
  have hlen:=bu.1 ho'.1
  have ht:=ho'.2
  unfold s4 at ht
  cases hc:dV f f.length ((f.length:Int) - 1) with
  | none=>rw[hc] at ht; cases ht
  | some p =>
   obtain⟨h1,h2⟩:=Ix (by omega) f.length ((f.length:Int) - 1) p.1 p.2 hc
   rw[wr (by omega) (by omega),(h1 1).1,(h1 0).2,Hl]
   simp only[Option.bind_some,ay]
   by_cases hb:(bM f f.length ((f.length:Int) - 1) 1).length > 200
   ·rw[aF (by omega)]
    exact⟨[],rfl,rfl,by simp⟩
   ·rw[ax (by omega)]
    exact⟨_,rfl,rfl,by omega⟩
end
def Ok {α:Type} (P:α→Prop) (o:Option α):Prop := ∃ a,o=some a∧P a
theorem Ok.one {α:Type} {P:α→Prop} {a:α} (h:P a):Ok P (some a):=⟨a,rfl,h⟩
theorem Ok.bnd {α β:Type} {P:α→Prop} {Q:β→Prop} {o:Option α} {f:α→Option β} (h:Ok P o) (k : ∀ a,P a→Ok Q (f a)):Ok Q (o.bind f):=by
 obtain⟨a,e,p⟩:=h
 rw[e]
 exact k a p
theorem Ok.ite {α:Type} {c:Prop} [Decidable c] {Q:α→Prop} {a b:Option α} (h:c→Ok Q a) (k : ¬c→Ok Q b):Ok Q (if c then a else b):=by
 by_cases e:c
 ·rw[if_pos e]; exact h e
 ·rw[if_neg e]; exact k e
theorem Ok.inb {α β:Type} {Q:β→Prop} {xs:List α} {i:Int} {k:Option β} (h:0≤i∧i < (xs.length:Int)) (hk:Ok Q k):Ok Q (inb xs i k):=by
 rw[bD h.1 h.2]; exact hk
theorem Ok.cats {β:Type} {Q:β→Prop} {a b:ByteArray} {f:ByteArray→Option β} (h:a.size+b.size≤9223372036854775807) (hk:Ok Q (f (a++b))):Ok Q (cats a b f):=by
 rw[lL h]; exact hk
theorem Ok.nz {β:Type} {Q:β→Prop} {b:Int} {k:Option β} (h:b≠0) (hk:Ok Q k):Ok Q (nz b k):=by
 rw[GE h]; exact hk
theorem Ok.app {α β:Type} {Q:β→Prop} {a b:List α} {n:Nat} {f:List α→Option β} (h:(a.length+b.length)*n≤140737488355328) (hk:Ok Q (f (a++b))):Ok Q (app a b n f):=by
 rw[bp h]; exact hk
theorem Ok.mono {α:Type} {P Q:α→Prop} {o:Option α} (h:Ok P o) (k : ∀ a,P a→Q a):Ok Q o:=by
 obtain⟨a,e,p⟩:=h
 exact⟨a,e,k a p⟩
theorem Y8 {α β:Type} {xs:List α} {i:Int} {d:α} {f:α→Option β} (h0:0≤i) (h1:i < (xs.length:Int)):ix xs i d f=f (xs.getD i.toNat d):=by
 have hl:i.toNat < xs.length:=by omega
 rw[ca h0 (List.getElem?_eq_getElem hl),List.getD_eq_getElem?_getD,List.getElem?_eq_getElem hl]
 rfl
theorem Ui {l:List ByteArray} {n:Nat} (h : ∀ x∈l,x.size≤n) (i:Nat) (d:ByteArray) (hd:d.size≤n):(l.getD i d).size≤n:=by
 rw[List.getD_eq_getElem?_getD]
 by_cases e:i < l.length
 ·rw[List.getElem?_eq_getElem e]; exact h _ (List.getElem_mem e)
 ·rw[List.getElem?_eq_none (by omega)]; exact hd
structure EB (c:List Int):Prop where
 len:c.length≤1048576
 all : ∀ b∈c,0≤b∧b≤255
def Rd (c:List Int) (s:aV):Prop:=s.1=c∧0≤s.2.1∧s.2.1≤(c.length:Int)
section
variable {c:List Int} (hc:EB c)
include hc
theorem uC {s:aV} (h:Rd c s):Ok (fun z=>(0≤z.1.1∧z.1.1≤255)∧Rd c z.2.1) (jV s):=by
 obtain⟨x,i,u⟩:=s
 obtain⟨h1,h2,h3⟩:=h
 simp only at h1 h2 h3
 subst h1
 have hl:=hc.len
 rw[yz]
 show Ok _ (if decide (i≥(x.length:Int))=true then some ((0,()),((x,i,u),())) else ix x (IntKind.i64.wrap ((IntKind.i64.wrap (i+1)) - 1)) 0 fun y1=>(some (((IntKind.i64.wrap y1),()),((x,(IntKind.i64.wrap (i+1)),()),()))))
 refine Ok.ite (fun _=>Ok.one ⟨⟨Int.le_refl _,by show(0:Int)≤255; decide⟩,rfl,h2,h3⟩) fun e => ?_
 have e':i < (x.length:Int):=by simp only[decide_eq_true_eq] at e; omega
 rw[wr (n:=i+1) (by omega) (by omega),wr (n:=i+1 - 1) (by omega) (by omega),show i+1 - 1=i by omega,Y8 h2 e']
 have hb:0≤x.getD i.toNat 0∧x.getD i.toNat 0≤255:=by
  rw[List.getD_eq_getElem?_getD,List.getElem?_eq_getElem (by omega)]
  exact hc.all _ (List.getElem_mem _)
 rw[wr (by omega) (by omega)]
 exact Ok.one ⟨hb,rfl,by show(0:Int)≤i+1; omega,by show i+1≤(x.length:Int); omega⟩
theorem rE {n:Int} {s:aV} (h:Rd c s) (hn:1≤n):Ok (fun z=>(0≤z.1.1∧z.1.1 < n)∧Rd c z.2.1) (aA n s):=by
 rw[GG]
 refine Ok.ite (fun _=>Ok.one ⟨⟨Int.le_refl _,by show(0:Int) < n; omega⟩,h⟩) fun _=>Ok.ite (fun _ => ?_) fun _ => ?_
 ·refine Ok.bnd (uC hc h) fun z hz=>Ok.nz (by omega) (Ok.one ⟨⟨Int.tmod_nonneg _ hz.1.1,Int.tmod_lt_of_pos _ (by omega)⟩,hz.2⟩)
 ·refine Ok.bnd (uC hc h) fun z hz=>Ok.bnd (uC hc hz.2) fun y hy => ?_
  have h1:=hz.1
  have h2:=hy.1
  rw[wr (n:=z.1.1*256) (by omega) (by omega),wr (by omega) (by omega)]
  exact Ok.nz (by omega) (Ok.one ⟨⟨Int.tmod_nonneg _ (by omega),Int.tmod_lt_of_pos _ (by omega)⟩,hy.2⟩)
theorem Nl {s:aV} (h:Rd c s):Ok (fun z=>bK z.1.1=true∧Rd c z.2.1) (ef s):=by
 rw[Md]
 refine Ok.bnd (rE hc h (by decide)) fun z hz=>Ok.bnd (rE hc hz.2 (by decide)) fun y hy => ?_
 have h1:=hz.1
 have h2:=hy.1
 rw[wr (by omega) (by omega),wr (by omega) (by omega)]
 refine Ok.one ⟨?_,hy.2⟩
 rw[s7]
 show(1≤1+z.1.1∧1+z.1.1≤52)∧1≤1+y.1.1∧1+y.1.1≤99
 omega
theorem Iz {n:Int} {s:aV} (h:Rd c s) (hn:1≤n):Ok (fun z=>Rd c z.2.1) (cy n s):=by
 rw[Kp]
 exact Ok.bnd (rE hc h hn) fun z hz=>Ok.one hz.2
theorem Nm : ∀(n:Nat) (x0:Int) (s:aV),n≤8→Rd c s→Ok (fun z=>Rd c z.2.1) (oC x0 (8 - (n:Int)) s)
 | 0,x0,s,_,h=>by
  rw[vj,ax (by omega)]
  exact Ok.one h
 | n+1,x0,s,hn,h=>by
  rw[vj,aF (by omega)]
  refine Ok.bnd (uC hc h) fun z hz => ?_
  rw[wr (by omega) (by omega),show 8 - ((n+1:Nat):Int)+1=8 - (n:Int) by omega]
  exact Nm n _ _ (by omega) hz.2
theorem XF {s:aV} (h:Rd c s):Ok (fun z=>Rd c z.2.1) (zN s):=by
 rw[Kr]
 exact Nm hc 8 0 s (Nat.le_refl _) h
theorem XG {a b:Int} {s:aV} (h:Rd c s) (hab:0≤a∧a≤b∧b≤1000000):Ok (fun z=>Rd c z.2.1) (zO a b s):=by
 rw[Ks]
 refine Ok.bnd (rE hc h (by decide)) fun z hz=>Ok.ite (fun _=>Ok.one hz.2) fun _=>Ok.ite (fun _=>Ok.one hz.2) fun _=>Ok.ite (fun _=>Ok.one hz.2) fun _=>Ok.bnd (XF hc hz.2) fun y hy => ?_
 refine Ok.nz ?_ (Ok.one hy)
 rw[wr (n:=b - a) (by omega) (by omega),wr (n:=b - a+1) (by omega) (by omega)]
 have:IntKind.u64.wrap (b - a+1)=b - a+1:=by
  show(b - a+1) % 18446744073709551616=_
  omega
 rw[this]
 omega
theorem YD {a b:Int} {s:aV} (h:Rd c s) (hab:0≤a∧a≤b∧b≤1000000):Ok (fun z=>Rd c z.2.1) (BW a b s):=by
 rw[Me]
 refine Ok.bnd (Iz hc h (by decide)) fun z hz=>Ok.ite (fun _ => ?_) fun _ => ?_
 ·exact Ok.bnd (rE hc hz (by decide)) fun y hy=>Ok.inb hy.1 (Ok.one hy.2)
 ·exact Ok.bnd (XG hc hz hab) fun y hy=>Ok.one hy
theorem XH {s:aV} (h:Rd c s):Ok (fun z=>Rd c z.2.1) (p8 s):=by
 rw[Kt]
 refine Ok.bnd (Nl hc h) fun z hz=>Ok.bnd (Nl hc hz.2) fun y hy=>Ok.bnd (Iz hc hy.2 (by decide)) fun w hw=>Ok.ite (fun _ => ?_) fun _=>Ok.one hw
 exact Ok.bnd (YD hc hw (by decide)) fun v hv=>Ok.one hv
end
theorem OT (p:bJ):Ok (fun z=>z.1.1.size≤10) (c8 p):=by
 refine⟨_,oH p,?_⟩
 show(if bK p.1=true then ba (fz p) else ba []).size≤10
 split
 ·rename_i h
  rw[ay]
  have:=Dx h
  omega
 ·rw[ay]; decide
theorem Uj {n:Int} (h0:0≤n) (h1:n≤100):Ok (fun z=>z.1.1.size≤20) (dY n):=⟨_,Cj (by omega) (by omega),qz (by omega) (by omega)⟩
theorem Sa {k:Int} (h0:0≤k) (h1:k≤11):Ok (fun z=>z.1.1.size≤2) (lI k):=by
 refine⟨_,uo h0 h1,?_⟩
 show(ba (du k)).size≤2
 rw[ay]
 exact zf k
theorem W1 {a:UInt8}:(⟨#[a]⟩:ByteArray).size=1:=rfl
theorem Zk {a b d:UInt8}:(⟨#[a,b,d]⟩:ByteArray).size=3:=rfl
theorem Ok.inbL {β:Type} {Q:β→Prop} {l:List ByteArray} {i n:Int} {k:Option β} (d:ByteArray) (h0:0≤i) (h1:i < n) (hl:n=(l.length:Int)) (hs : ∀ x∈l,x.size≤20) (hd:d.size≤20) (hk:(l.getD i.toNat d).size≤20→Ok Q k):Ok Q (Abs.inb l i k) :=
 Ok.inb ⟨h0,by omega⟩ (hk (Ui hs _ _ hd))
theorem P1 {β:Type} {Q:β→Prop} {p:bJ} {f:(ByteArray×Unit)×Unit→Option β} (k : ∀ z,z.1.1.size≤10→Ok Q (f z)):Ok Q ((c8 p).bind f):=Ok.bnd (OT p) k
theorem Sb {β:Type} {Q:β→Prop} {n:Int} {f:(ByteArray×Unit)×Unit→Option β} (h0:0≤n) (h1:n≤100) (k : ∀ z,z.1.1.size≤20→Ok Q (f z)):Ok Q ((dY n).bind f):=Ok.bnd (Uj h0 h1) k
theorem YE {β:Type} {Q:β→Prop} {n:Int} {f:(ByteArray×Unit)×Unit→Option β} (h0:0≤n) (h1:n≤11) (k : ∀ z,z.1.1.size≤2→Ok Q (f z)):Ok Q ((lI n).bind f):=Ok.bnd (Sa h0 h1) k
theorem XI {β:Type} {Q:β→Prop} {n:Int} {f:(ByteArray×Unit)×Unit→Option β} (h0:0≤n) (h1:n < 11) (k : ∀ z,z.1.1.size≤2→Ok Q (f z)):Ok Q ((lI (IntKind.i64.wrap (1+n))).bind f):=by
 rw[wr (by omega) (by omega)]
 exact YE (by omega) (by omega) k
section
variable {c:List Int} (hc:EB c) {β:Type} {Q:β→Prop} {s:aV}
include hc
theorem Dy {n:Int} {f:(Int×Unit)×aV×Unit→Option β} (h:Rd c s) (hn:1≤n) (k : ∀ z,0≤z.1.1→z.1.1 < n→Rd c z.2.1→Ok Q (f z)):Ok Q ((aA n s).bind f):=Ok.bnd (rE hc h hn) fun z hz=>k z hz.1.1 hz.1.2 hz.2
theorem Nn {n:Int} {f:(Bool×Unit)×aV×Unit→Option β} (h:Rd c s) (hn:1≤n) (k : ∀ z,Rd c z.2.1→Ok Q (f z)):Ok Q ((cy n s).bind f):=Ok.bnd (Iz hc h hn) k
theorem Dz {f:(al×Unit)×aV×Unit→Option β} (h:Rd c s) (k : ∀ z,bK z.1.1=true→Rd c z.2.1→Ok Q (f z)):Ok Q ((ef s).bind f):=Ok.bnd (Nl hc h) fun z hz=>k z hz.1 hz.2
theorem YF {f:(aM×Unit)×aV×Unit→Option β} (h:Rd c s) (k : ∀ z,Rd c z.2.1→Ok Q (f z)):Ok Q ((p8 s).bind f):=Ok.bnd (XH hc h) k
theorem XJ {m q:Nat} {f:(ByteArray×Unit)×aV×Unit→Option β} (ih : ∀ {s:aV},Rd c s→Ok (fun y=>y.1.1.size≤100*q∧Rd c y.2.1) (bg (m:Int) s)) (h:Rd c s) (k : ∀ z,z.1.1.size≤100*q→Rd c z.2.1→Ok Q (f z)):Ok Q ((bg (m:Int) s).bind f):=Ok.bnd (ih h) fun z hz=>k z hz.1 hz.2
end
set_option maxHeartbeats 4000000 in
theorem No {c:List Int} (hc:EB c) : ∀(n:Nat) {s:aV},n≤3→Rd c s→Ok (fun y=>y.1.1.size≤100*4 ^ n∧Rd c y.2.1) (bg (n:Int) s)
 | n,s,hn,h=>by
  have h1:1≤4 ^ n:=Nat.one_le_pow _ _ (by decide)
  rw[H3]
  refine Ok.ite (fun _ => ?_) fun e => ?_
  ·generalize 4 ^ n=q at h1 ⊢
   repeat' first
    | refine Dy hc (by assumption) (by decide) fun _ _ _ _ => ?_
    | refine Dz hc (by assumption) fun _ _ _ => ?_
    | refine Nn hc (by assumption) (by decide) fun _ _ => ?_
    | refine P1 fun _ _ => ?_
    | refine Sb (by omega) (by omega) fun _ _ => ?_
    | refine Ok.inbL ⟨#[]⟩ (by assumption) (by assumption) (by decide) (by decide) (by decide) fun _ => ?_
    | refine Ok.ite (fun _ => ?_) fun _ => ?_
    | refine Ok.one ⟨?_,by assumption⟩
   all_goals (try dsimp only)
   all_goals omega
  ·have hn0:n≠0:=fun k=>e (by subst k; rfl)
   obtain⟨m,rfl⟩ : ∃ m,n=m+1:=⟨n - 1,by omega⟩
   have hw:IntKind.i64.wrap (((m+1:Nat):Int) - 1)=(m:Int):=by rw[wr (by omega) (by omega)]; omega
   have ih:=fun {s:aV} (h:Rd c s)=>No hc m (s:=s) (by omega) h
   have hp:4 ^ (m+1)=4*4 ^ m:=by rw[Nat.pow_succ,Nat.mul_comm]
   have h2:1≤4 ^ m:=Nat.one_le_pow _ _ (by decide)
   have h64:4 ^ m≤64:=Nat.le_trans (Nat.pow_le_pow_right (by decide) (by omega:m≤3)) (by decide)
   rw[hp]
   simp only[hw]
   generalize 4 ^ m=q at ih h2 h64 ⊢
   repeat' first
    | refine Dy hc (by assumption) (by decide) fun _ _ _ _ => ?_
    | refine Dz hc (by assumption) fun _ _ _ => ?_
    | refine Nn hc (by assumption) (by decide) fun _ _ => ?_
    | refine YF hc (by assumption) fun _ _ => ?_
    | refine XJ hc ih (by assumption) fun _ _ _ => ?_
    | refine P1 fun _ _ => ?_
    | refine Sb (by omega) (by omega) fun _ _ => ?_
    | refine XI (by assumption) (by assumption) fun _ _ => ?_
    | refine Ok.inbL ⟨#[]⟩ (by assumption) (by assumption) (by decide) (by decide) (by decide) fun _ => ?_
    | (refine Ok.cats (by simp only[size_append,W1,Zk]; omega) ?_; try dsimp only)
    | refine Ok.ite (fun _ => ?_) fun _ => ?_
    | refine Ok.one ⟨?_,by assumption⟩
   all_goals (try dsimp only)
   all_goals (try simp only[size_append,W1,Zk])
   all_goals omega
theorem P2 (c:List Int):QH c=some ((decide (1048576 < (c.length:Int)),()),()):=by rw[Xl]
theorem Uk {x:List Int} (h:x.length≤maxLen ∧ ∀ b∈x,AW (.int .u8) b) (hl : ¬1048576 < (x.length:Int)):EB x:=by
 refine⟨by omega,fun b hb => ?_⟩
 have:(decide (IntKind.u8.min≤b) && decide (b≤IntKind.u8.max))=true:=h.2 b hb
 simp only[Bool.and_eq_true,decide_eq_true_eq] at this
 have e1:IntKind.u8.min=0:=rfl
 have e2:IntKind.u8.max=255:=rfl
 omega
def so (x:aa):Bool:=decide (x.1=2) || decide (x.1=3)
def cF (f:List aa):List aM:=(f.filter so).map dy
def jm (ar:List aM) (l:List ac):List ac:=l.filter fun c=>ar.any fun a=>dG a c.1
theorem We (r:al):dG (r,r,()) r=true:=by
 unfold dG
 rw[Bool.and_eq_true,bu,bu]
 exact⟨⟨Int.le_refl _,Int.le_refl _⟩,Int.le_refl _,Int.le_refl _⟩
theorem Np {ar:List aM} {r:al} (h : ∃ a∈ar,dG a r=true) : ∀ l:List ac,dt (jm ar l) r=dt l r
 | []=>rfl
 | c :: l=>by
  have ih:=Np h l
  unfold jm at ih ⊢
  rw[List.filter_cons]
  by_cases hc:(ar.any fun a=>dG a c.1)=true
  ·rw[if_pos hc]
   unfold dt
   rw[ih]
  ·rw[if_neg hc,ih]
   have:c.1≠r:=by
    rintro rfl
    exact hc (List.any_eq_true.2 h)
   conv=>rhs; unfold dt
   rw[if_neg this]
theorem Wf {ar:List aM} {a:aM} (h:a∈ar) (l:List ac):jd (jm ar l) a=jd l a:=by
 unfold jd jm
 rw[List.filter_filter]
 congr 1
 refine List.filter_congr fun c _ => ?_
 cases hc:dG a c.1 with
 | false=>rfl
 | true =>
  rw[Bool.true_and]
  exact List.any_eq_true.2 ⟨a,h,hc⟩
section
variable {f:List aa} {l:List ac}
theorem Wg {k:Int} (h0:0≤k) (h1:k < f.length):cm f k∈f:=by
 unfold cm
 rw[List.getD_eq_getElem?_getD,List.getElem?_eq_getElem (by omega)]
 exact List.getElem_mem _
theorem J7 {x:aa} (h:x∈f) (k:so x=true):dy x∈cF f:=List.mem_map_of_mem (List.mem_filter.2 ⟨h,k⟩)
theorem Nq {ev ev':Int→ab} : ∀ ks:List Int,(∀ k∈ks,0≤k∧k < f.length)→(∀ k∈ks,ev' k=ev k)→jM ev' f (jm (cF f) l) ks=jM ev f l ks
 | [],_,_=>rfl
 | k :: ks,hb,he=>by
  unfold jM
  rw[Nq ks (fun j hj=>hb j (List.mem_cons_of_mem _ hj)) (fun j hj=>he j (List.mem_cons_of_mem _ hj)),he k List.mem_cons_self]
  by_cases h3:(cm f k).1=3
  ·have hb:=hb k List.mem_cons_self
   rw[if_pos h3,if_pos h3,Wf (J7 (Wg hb.1 hb.2) (by unfold so; rw[h3]; rfl))]
  ·rw[if_neg h3,if_neg h3]
theorem Nr (A : ∀(i:Nat) (x:aa),f[i]? = some x→mN f i x) : ∀(n:Nat) (k:Int),0≤k→k < n→k < f.length→cZ n f (jm (cF f) l) k=cZ n f l k
 | 0,k,h0,h1,_=>by omega
 | n+1,k,h0,h1,h2=>by
  obtain⟨x,hx⟩ : ∃ y,f[k.toNat]? = some y:=⟨f[k.toNat]'(by omega),List.getElem?_eq_getElem _⟩
  have hst:=A _ _ hx
  have hnx:cm f k=x:=by
   unfold cm
   rw[List.getD_eq_getElem?_getD,hx]
   rfl
  have hm:x∈f:=List.mem_of_getElem? hx
  have hb : ∀ j∈x.2.2.2.2.2.1,0≤j∧j < f.length:=fun j hj=>by
   have:=hst.2 j hj
   omega
  have hk : ∀ j∈x.2.2.2.2.2.1,cZ n f (jm (cF f) l) j=cZ n f l j:=fun j hj=>by
   have:=hst.2 j hj
   exact Nr A n j this.1 (by omega) (by omega)
  have h00:cZ n f (jm (cF f) l) 0=cZ n f l 0:=by
   cases n with
   | zero=>rfl
   | succ n=>exact Nr A (n+1) 0 (by omega) (by omega) (by omega)
  have hkid : ∀ i:Nat,cZ n f (jm (cF f) l) (x.2.2.2.2.2.1.getD i 0)=cZ n f l (x.2.2.2.2.2.1.getD i 0):=fun i=>by
   rw[List.getD_eq_getElem?_getD]
   by_cases e:i < x.2.2.2.2.2.1.length
   ·rw[List.getElem?_eq_getElem e]
    exact hk _ (List.getElem_mem e)
   ·rw[List.getElem?_eq_none (by omega)]
    exact h00
  unfold cZ
  simp only[hnx,hkid]
  have hargs:=Nq (l:=l) (ev:=cZ n f l) (ev':=cZ n f (jm (cF f) l)) _ hb hk
  rw[hargs]
  by_cases k2:x.1=2
  ·rw[Np ⟨_,J7 hm (by unfold so; rw[k2]; rfl),?_⟩]
   unfold dy
   rw[if_pos k2]
   exact We _
  ·rw[if_neg k2,if_neg k2]
end
theorem Ns : ∀ {l:List al} {o:Option al},(l.Pairwise fun a b=>gz a b=true)→(∀ a,o=some a → ∀ b∈l,gz a b=true)→qC o l=true
 | [],o,_,_=>by cases o <;> rfl
 | b :: l,o,h,ho=>by
  have h':=List.pairwise_cons.1 h
  rw[Cr,Ns (o:=some b) h'.2 (fun a e=>by cases e; exact h'.1),Bool.and_true]
  cases o with
  | none=>rfl
  | some a=>exact ho a rfl b List.mem_cons_self
theorem Nt {f:List aa} {l:List ac} (h:eH f=true):gh f (jm (cF f) l)=gh f l:=by
 have hb:cQ (f.length:Int) 1 60=true:=by
  unfold eH at h
  simp only[Bool.and_eq_true] at h
  exact h.1
 have:=bu.1 hb
 unfold gh
 rw[Nr (la h) f.length _ (by omega) (by omega) (by omega)]
def jP (d:ag):Bool:=d.all dx && decide (bA 0 d≤1000000000000000)
theorem Ul {d:ag} (hne:d≠[]) (h:d.length=1∨d.head? ≠ some 48):j6 d=d.all dx:=by
 have hl:=List.length_pos_iff.2 hne
 unfold j6
 rw[decide_eq_true (show 1≤d.length by omega),Bool.and_true]
 rcases h with h | h
 ·rw[decide_eq_true h]; simp
 ·rw[decide_eq_false h]; simp
theorem Um {d:ag} (hne:d≠[]) (h:d.length=1∨d.head? ≠ some 48):(cU d 16 && decide (bA 0 d≤1000000000000000))=jP d:=by
 unfold cU jP
 rw[Ul hne h]
 cases ha:d.all dx with
 | false=>simp
 | true =>
  simp only[Bool.true_and]
  by_cases hv:bA 0 d≤1000000000000000
  ·have hd:=(PO d (by rw[Ul hne h]; exact ha)).1
   have:=RU hv
   rw[hd] at this
   rw[decide_eq_true this]
   rfl
  ·rw[decide_eq_false hv,Bool.and_false]
theorem Y9 {d:ag} (h:cU d 16=true):bA 0 d < 10000000000000000:=by
 unfold cU j6 at h
 simp only[Bool.and_eq_true,decide_eq_true_eq] at h
 have:=Di d 0 h.1.1.1
 have h2:10 ^ d.length≤10 ^ 16:=Nat.pow_le_pow_right (by decide) h.2
 omega
theorem Wh (n:Int):ao (vN n)=cQ n (-1000000000000000) 1000000000000000:=by
 unfold ao vN
 simp
def rF (b:Bool) (n:Nat):Int:=if b=true then -(n:Int) else n
theorem Nu {b:Bool} {n:Nat}:ao (vN (rF b n))=decide (n≤1000000000000000):=by
 rw[Wh]
 unfold rF cQ
 rw[Bool.eq_iff_iff,decide_eq_true_eq,decide_eq_true_eq]
 cases b <;> simp <;> omega
theorem Un {d:ag} {b:Bool}:((dn (ba d) 16).bind fun z4=>(if b=true then(if z4.1.2.1=true then((eI (1,(IntKind.i64.wrap (0 - z4.1.1)),(⟨#[]⟩:ByteArray),())).bind fun z5=>(some (((1,(IntKind.i64.wrap (0 - z4.1.1)),(⟨#[]⟩:ByteArray),()),z5.1.1,()),(())))) else(some (((1,(IntKind.i64.wrap (0 - z4.1.1)),(⟨#[]⟩:ByteArray),()),false,()),(())))) else(if z4.1.2.1=true then((eI (1,z4.1.1,(⟨#[]⟩:ByteArray),())).bind fun z6=>(some (((1,z4.1.1,(⟨#[]⟩:ByteArray),()),z6.1.1,()),(())))) else(some (((1,z4.1.1,(⟨#[]⟩:ByteArray),()),false,()),(()))))))
  = (some ((vN (rF b (if cU d 16=true then bA 0 d else 0)),(cU d 16 && decide (bA 0 d≤1000000000000000)),()),()):Option ((ab×Bool×Unit)×Unit)):=by
 have e:=Cw d (m:=16) (by decide)
 have e:dn (ba d) 16=_:=e
 rw[e]
 simp only[Option.bind_some]
 cases hr:cU d 16 with
 | false=>cases b <;> rfl
 | true =>
  have hlt:=Y9 hr
  simp only[if_true,Bool.true_and]
  cases b with
  | true =>
   simp only[if_true]
   rw[wr (by omega) (by omega)]
   have ev:((1,0 - ((bA 0 d:Nat):Int),(⟨#[]⟩:ByteArray),()):ab)=vN (rF true (bA 0 d)):=by
    unfold vN rF
    rw[if_pos rfl,show(0:Int) - ((bA 0 d:Nat):Int) = -((bA 0 d:Nat):Int) by omega]
   rw[ev,fG (by show eS.size≤_; decide),Nu]
   rfl
  | false =>
   simp only[Bool.false_eq_true,if_false]
   have ev:((1,((bA 0 d:Nat):Int),(⟨#[]⟩:ByteArray),()):ab)=vN (rF false (bA 0 d)):=rfl
   rw[ev,fG (by show eS.size≤_; decide),Nu]
   rfl
theorem Sc {b:Bool} : ∀(d:ag),d≠[]→d.length≤9223372036854775807 → ∃ v:ab,kz (ba d) b 0 0 (⟨#[]⟩:ByteArray)=some ((v,jP d,()),())∧(jP d=true→v=vN (rF b (bA 0 d)))
 | [],h,_=>absurd rfl h
 | c :: l,h,hl=>by
  have aR:(c :: l:ag).length=1∨(c :: l:ag).head? ≠ some 48 → ∃ v:ab,(some ((vN (rF b (if cU (c :: l) 16=true then bA 0 (c :: l) else 0)),(cU (c :: l) 16 && decide (bA 0 (c :: l)≤1000000000000000)),()),()):Option ((ab×Bool×Unit)×Unit))=some ((v,jP (c :: l),()),())∧(jP (c :: l)=true→v=vN (rF b (bA 0 (c :: l)))):=by
   intro hc
   rw[Um h hc]
   refine⟨_,rfl,fun ho => ?_⟩
   rw[←Um h hc,Bool.and_eq_true] at ho
   rw[if_pos ho.1]
  rw[GS,ay]
  by_cases h1:1 < (c :: l:ag).length
  ·rw[aF (by omega),ot,Fm c 48 (n:=48) rfl]
   by_cases h48:c=48
   ·subst h48
    rw[aF rfl,show(1:Int)=((1:Nat):Int) from rfl,fR (by simp)]
    simp only[List.drop_succ_cons,List.drop_zero]
    have hne:l≠[]:=by
     rintro rfl
     simp at h1
    have hll:l.length≤9223372036854775807:=by rw[List.length_cons] at hl; omega
    obtain⟨v,e1,e2⟩:=Sc (b:=b) l hne hll
    have eo:jP (48 :: l)=jP l:=by
     unfold jP
     rfl
    rw[eo]
    exact⟨v,e1,e2⟩
   ·rw[ax h48,Un]
    exact aR (.inr (by simpa using h48))
  ·rw[ax (by omega),Un]
   exact aR (.inl (by simp only[List.length_cons] at h1 ⊢; omega))
def Nv (w:ag):Bool:=decide (w.head? = some 45)
def jf (w:ag):ag:=if w.head? = some 45 then w.drop 1 else w
def gA (w:ag):Bool:=decide (jf w≠[]) && jP (jf w)
def lf (w:ag):Int:=rF (Nv w) (bA 0 (jf w))
theorem CB {w:ag} (hw:w≠[]) (hl:w.length≤9223372036854775807) : ∃ v:ab,BX (ba w)=some ((v,gA w,()),())∧(gA w=true→v=vN (lf w)):=by
 cases w with
 | nil=>exact absurd rfl hw
 | cons c l =>
  rw[Mj,ay,aF (by simp),ot,Fm c 45 (n:=45) rfl]
  by_cases hc:c=45
  ·subst hc
   have hm:jf (45 :: l)=l:=rfl
   have hg:Nv (45 :: l)=true:=rfl
   have e0:(ByteArray.toList (ba l) == ByteArray.toList (⟨#[]⟩:ByteArray))=decide (l=[]):=dL (b:=[])
   rw[aF rfl,show(1:Int)=((1:Nat):Int) from rfl,fR (by simp)]
   simp only[List.drop_succ_cons,List.drop_zero]
   rw[e0]
   unfold gA lf
   rw[hm,hg]
   by_cases hn:l=[]
   ·rw[aF hn]
    subst hn
    exact⟨_,rfl,fun h=>by cases h⟩
   ·rw[ax hn]
    obtain⟨v,e1,e2⟩:=Sc (b:=true) l hn (by rw[List.length_cons] at hl; omega)
    refine⟨v,?_,fun h => ?_⟩
    ·simpa[hn] using e1
    ·rw[Bool.and_eq_true] at h
     exact e2 h.2
  ·have hm:jf (c :: l)=c :: l:=if_neg (by simpa using hc)
   have hg:Nv (c :: l)=false:=decide_eq_false (by simpa using hc)
   have e0:(ByteArray.toList (ba (c :: l)) == ByteArray.toList (⟨#[]⟩:ByteArray))=decide (c :: l=[]):=dL (b:=[])
   rw[ax hc,e0,ax (by simp)]
   unfold gA lf
   rw[hm,hg]
   obtain⟨v,e1,e2⟩:=Sc (b:=false) (c :: l) (by simp) hl
   refine⟨v,?_,fun h => ?_⟩
   ·simpa[hc] using e1
   ·rw[Bool.and_eq_true] at h
    exact e2 h.2
theorem YG:(fun c=>([48,49,50,51,52,53,54,55,56,57]:ag).contains c)=dx:=funext fun c=>qB (p:=fun c=>([48,49,50,51,52,53,54,55,56,57]:ag).contains c=dx c) (by decide +kernel) c
theorem Ho {p:UInt8→Bool} : ∀ {l:ag} {x:UInt8} {t:ag},l.dropWhile p=x :: t→p x=false
 | c :: l,x,t,h=>by
  cases hc:p c with
  | true =>
   rw[List.dropWhile_cons_of_pos hc] at h
   exact Ho h
  | false =>
   rw[List.dropWhile_cons_of_neg (by rw[hc]; decide)] at h
   cases h
   exact hc
theorem xf {p:UInt8→Bool} : ∀ {l:ag},l.dropWhile p=[]↔l.all p=true
 | []=>by simp
 | c :: l=>by
  cases hc:p c with
  | true=>rw[List.dropWhile_cons_of_pos hc,xf]; simp[hc]
  | false=>rw[List.dropWhile_cons_of_neg (by rw[hc]; decide)]; simp[hc]
theorem Wi (d:ag):(Lib.trimS d [48,49,50,51,52,53,54,55,56,57]=[])↔d.all dx=true:=by
 unfold Lib.trimS Lib.trimLeftS Lib.trimRightS
 rw[YG,xf]
 constructor
 ·intro h
  cases hr:d.reverse.dropWhile dx with
  | nil =>
   rw[xf] at hr
   simpa using hr
  | cons x t =>
   have hx:=Ho hr
   rw[hr] at h
   simp only[List.all_reverse,List.all_cons,Bool.and_eq_true] at h
   rw[hx] at h
   cases h.1
 ·intro h
  have:d.reverse.dropWhile dx=[]:=xf.2 (by simpa using h)
  rw[this]
  rfl
theorem Nw {w:ag} (hl:w.length≤1000000):B0 (ba w)=some (((decide (jf w≠[]) && (jf w).all dx),()),()):=by
 have hp:mt (ba w) (⟨#[45]⟩:ByteArray)=some ((ba (jf w),()),()):=by
  rw[yC,ug,show(⟨#[45]⟩:ByteArray)=ba [45] from rfl,xw _ _ (by omega)]
  simp only[Option.bind_some,Fk]
  unfold jf
  by_cases h:w.head? = some 45
  ·obtain⟨t,rfl⟩:=iy h
   rw[aF h,if_pos h,ay,fR (by simp)]
   rfl
  ·rw[ax h,if_neg h]
   rfl
 rw[Ml,hp]
 simp only[Option.bind_some]
 have e0 : ∀ x:ag,(ByteArray.toList (ba x) == ByteArray.toList (⟨#[]⟩:ByteArray))=decide (x=[]):=fun x=>dL (b:=[])
 have hm:(jf w).length≤w.length:=by
  unfold jf
  split <;> simp
 rw[e0]
 by_cases hn:jf w=[]
 ·simp[hn]
 ·have ht:u3 (ba (jf w)) (⟨#[48,49,50,51,52,53,54,55,56,57]⟩:ByteArray)=some ((ba (Lib.trimS (jf w) [48,49,50,51,52,53,54,55,56,57]),()),()):=by
   rw[GQ]
   show(if uU (ba [48,49,50,51,52,53,54,55,56,57])=true∧(ba (jf w)).size≤9223372036854775807 then some (((⟨(Lib.trimS (lb (ba (jf w))) (lb (ba [48,49,50,51,52,53,54,55,56,57]))).toArray⟩:ByteArray),()),()) else none)=_
   rw[if_pos ⟨by decide +kernel,by rw[ay]; omega⟩,dP,dP]
  rw[ht]
  simp only[Option.bind_some,hn,decide_false,Bool.not_false,if_true,e0,ne_eq,not_false_eq_true,decide_true,Bool.true_and]
  congr 3
  rw[Bool.eq_iff_iff,decide_eq_true_eq]
  exact Wi _
theorem Nx : ∀(l:ag) (a u:Nat),l.all dx=true→Lib.parseUintM 18446744073709551615 a l = .ok u→u=bA a l
 | [],a,u,_,h=>by
  cases h
  rfl
 | c :: l,a,u,h,hp=>by
  simp only[List.all_cons,Bool.and_eq_true] at h
  have hd:48≤c.toNat∧c.toNat≤57:=by simpa[dx] using h.1
  unfold Lib.parseUintM at hp
  rw[if_pos hd] at hp
  split at hp
  ·cases hp
  ·split at hp
   ·cases hp
   ·exact Nx l _ u h.2 hp
theorem J8 {w:ag} (hne:jf w≠[]) (hd:(jf w).all dx=true) (h:(cl w).2=true):(cl w).1=lf w:=by
 unfold cl at h ⊢
 cases hp:Lib.parseIntB 64 w with
 | range=>rw[hp] at h; cases h
 | ok v =>
  simp only
  cases w with
  | nil=>exact absurd rfl hne
  | cons c l =>
   unfold Lib.parseIntB at hp
   simp only at hp
   unfold lf
   by_cases hc:c=45
   ·subst hc
    have hm:jf (45 :: l)=l:=rfl
    have hg:Nv (45 :: l)=true:=rfl
    rw[hm] at hne hd
    have h45:(45:UInt8).toNat=45:=rfl
    rw[if_pos (.inr h45)] at hp
    unfold Lib.parseUintB at hp
    rw[if_neg hne] at hp
    cases hu:Lib.parseUintM (2 ^ 64 - 1) 0 l with
    | range=>rw[hu] at hp; cases hp
    | ok u =>
     rw[hu] at hp
     have:=Nx l 0 u hd hu
     simp only at hp
     split at hp
     ·cases hp
     ·split at hp
      ·cases hp
      ·cases hp
       rw[hm,hg,this]
       rfl
    | _=>rw[hu] at hp; cases hp
   ·have hm:jf (c :: l)=c :: l:=if_neg (by simpa using hc)
    have hg:Nv (c :: l)=false:=decide_eq_false (by simpa using hc)
    rw[hm] at hd
    have hcd:48≤c.toNat∧c.toNat≤57:=by
     simp only[List.all_cons,Bool.and_eq_true] at hd
     simpa[dx] using hd.1
    rw[if_neg (by omega)] at hp
    unfold Lib.parseUintB at hp
    rw[if_neg (by simp)] at hp
    cases hu:Lib.parseUintM (2 ^ 64 - 1) 0 (c :: l) with
    | range=>rw[hu] at hp; cases hp
    | ok u =>
     rw[hu] at hp
     have:=Nx (c :: l) 0 u hd hu
     simp only at hp
     split at hp
     ·cases hp
     ·split at hp
      ·cases hp
      ·rw[if_neg (by omega)] at hp
       cases hp
       rw[hm,hg,this]
       rfl
    | _=>rw[hu] at hp; cases hp
 | _=>rw[hp] at h; cases h
theorem OU {w:ag} (h:gA w=true):cl w=(lf w,true):=by
 unfold gA jP at h
 simp only[Bool.and_eq_true,decide_eq_true_eq] at h
 obtain⟨hne,hd,hv⟩:=h
 have hp2:(cl w).2=true:=by
  cases w with
  | nil=>exact absurd rfl hne
  | cons c l =>
   by_cases hc:c=45
   ·subst hc
    have hm:jf (45 :: l)=l:=rfl
    rw[hm] at hne hd hv
    have h45:(45:UInt8).toNat=45:=rfl
    have hu:Lib.parseUintM (2 ^ 64 - 1) 0 l = .ok (bA 0 l):=KY l 0 hd (by omega)
    have:Lib.parseIntB 64 (45 :: l) = .ok (-((bA 0 l:Nat):Int)):=by
     unfold Lib.parseIntB
     simp only
     rw[if_pos (.inr h45)]
     unfold Lib.parseUintB
     rw[if_neg hne,hu]
     simp only
     rw[if_neg (by omega),if_neg (by omega)]
     rfl
    unfold cl
    rw[this]
   ·have hm:jf (c :: l)=c :: l:=if_neg (by simpa using hc)
    rw[hm] at hd hv
    have hcd:48≤c.toNat∧c.toNat≤57:=by
     have hd':=hd
     simp only[List.all_cons,Bool.and_eq_true] at hd'
     simpa[dx] using hd'.1
    have hu:Lib.parseUintM (2 ^ 64 - 1) 0 (c :: l) = .ok (bA 0 (c :: l)):=KY (c :: l) 0 hd (by omega)
    have:Lib.parseIntB 64 (c :: l) = .ok ((bA 0 (c :: l):Nat):Int):=by
     unfold Lib.parseIntB
     simp only
     rw[if_neg (by omega)]
     unfold Lib.parseUintB
     rw[if_neg (by simp),hu]
     simp only
     rw[if_neg (by omega),if_neg (by omega),if_neg (by omega)]
    unfold cl
    rw[this]
 exact Prod.ext (J8 hne hd hp2) hp2
theorem YH {w:ag} (h:gA w=false) (h1:(cl w).2=true) (h2:(decide (jf w≠[]) && (jf w).all dx)=true):ao (vN (cl w).1)=false:=by
 simp only[Bool.and_eq_true,decide_eq_true_eq] at h2
 rw[J8 h2.1 h2.2 h1]
 unfold lf
 rw[Nu]
 unfold gA jP at h
 rw[decide_eq_true h2.1,h2.2] at h
 simpa using h
theorem AG {w:ag} (h:gA w=true) : -1000000000000000≤lf w∧lf w≤1000000000000000:=by
 unfold gA jP at h
 simp only[Bool.and_eq_true,decide_eq_true_eq] at h
 unfold lf rF
 split <;> omega
theorem AH {x:ByteArray} (hx:x.size≤9223372036854775807) : ∃(t:ag) (b:Bool),zS x=some ((ba t,b,()),())∧rl x=some ((ba t,b,()),())∧t.length≤200:=by
 obtain⟨w,rfl⟩ : ∃ s,x=ba s:=⟨lb x,(eO x).symm⟩
 rw[Oy,Em,sj hx,ui hx]
 simp only[Option.bind_some]
 have e0 : ∀ x:ag,(ByteArray.toList (ba x) == ByteArray.toList (⟨#[]⟩:ByteArray))=decide (x=[]):=fun x=>dL (b:=[])
 rw[e0]
 cases hp:(plain (ba w) && decide (((ba w).size:Int)≤200)) with
 | false =>
  have hw:w≠[]:=by
   rintro rfl
   exact absurd hp (by decide)
  rw[decide_eq_false hw]
  exact⟨[],false,rfl,rfl,by simp⟩
 | true =>
  have hp':=hp
  rw[Bool.and_eq_true,decide_eq_true_eq,ay] at hp'
  have hl:w.length≤200:=by omega
  simp only[Bool.not_true,Bool.false_eq_true,if_false]
  by_cases hw:w=[]
  ·subst hw
   exact⟨[],true,rfl,rfl,by simp⟩
  ·rw[ax hw,ax hw]
   have hcut:cu (ba w) (⟨#[61]⟩:ByteArray)=_:=s6 w [61] (by omega)
   rw[hcut]
   simp only[Option.bind_some,Fk]
   cases w with
   | nil=>exact absurd rfl hw
   | cons c l =>
    rw[ot,Fm c 61 (n:=61) rfl]
    by_cases hc:c=61
    ·subst hc
     have hll:l.length≤200:=by rw[List.length_cons] at hl; omega
     simp only[List.head?_cons,decide_true,if_true,List.length_singleton,List.drop_succ_cons,List.drop_zero]
     rw[show(1:Int)=((1:Nat):Int) from rfl,fR (by simp)]
     simp only[List.drop_succ_cons,List.drop_zero]
     obtain⟨f,b,r1,r2,r3,r4⟩:=KZ (x:=ba l) (by rw[ay]; omega)
     rw[r1,r2]
     simp only[Option.bind_some]
     have hsm:f.length≤10000000∧(∀ x∈f,x.2.2.1.2.2.1.size≤9223372036854775807) ∧ ∀ x∈f,x.2.2.2.2.2.1.length≤10000000:=by
      cases b with
      | false=>rw[r4 rfl]; simp
      | true =>
       have ho:=r3 rfl
       have hs:dQ f=true:=by
        unfold dQ
        rw[List.all_eq_true]
        intro y hy
        obtain⟨i,hi⟩:=List.getElem?_of_mem hy
        exact(la ho i y hi).1
       have ho':=ho
       unfold eH at ho'
       rw[Bool.and_eq_true] at ho'
       have:=bu.1 ho'.1
       exact⟨by omega,Iv (vI hs),Iw (vI hs)⟩
     obtain⟨t,t1,t2,t3⟩:=Iy hsm.1 hsm.2.1 hsm.2.2
     rw[t2,Mk,t1]
     simp only[Option.bind_some]
     rw[show(⟨#[61]⟩:ByteArray)=ba [61] from rfl,bF (by simp only[List.length_singleton]; omega),e0,ay]
     cases b with
     | false =>
      simp only[Bool.not_false,if_true]
      refine⟨[],false,?_,rfl,by simp⟩
      by_cases ht:t=[] <;> simp[ht]
     | true =>
      simp only[Bool.not_true,Bool.false_eq_true,if_false]
      by_cases ht:t=[]
      ·refine⟨[],false,?_,?_,by simp⟩ <;> simp[ht]
      ·rw[wr (by omega) (by omega)]
       by_cases h2:t.length < 200
       ·refine⟨61 :: t,true,?_,?_,by rw[List.length_cons]; omega⟩
        ·rw[decide_eq_false ht,decide_eq_true (show(t.length:Int) < 200 by omega)]
         rfl
        ·rw[ax ht,ax (by omega),bF (by simp only[List.length_singleton]; omega)]
         rfl
       ·refine⟨[],false,?_,?_,by simp⟩
        ·rw[decide_eq_false ht,decide_eq_false (show ¬(t.length:Int) < 200 by omega)]
         rfl
        ·rw[ax ht,aF (by omega)]
    ·have hnc : ¬(some c=some (61:UInt8)):=by simpa using hc
     simp only[List.head?_cons,hnc,decide_false,Bool.false_eq_true,if_false,hc]
     generalize hwd:(c :: l:ag)=w at *
     have hsz:(ba w).size=w.length:=ay w
     rw[xz (by omega)]
     obtain⟨v,n1,n2⟩:=CB hw (by omega)
     rw[n1,Nw (by omega),lz (by omega),oJ (by omega)]
     simp only[Option.bind_some,jL]
     rw[eY (by show eS.size≤_; decide)]
     simp only[Option.bind_some]
     have tail : ∃(t:ag) (b:Bool),(if(bb w).2=true then(some ((ba w,true,()),(())):Option ((ByteArray×Bool×Unit)×Unit)) else(if((ByteArray.size (ba w):Int) == 200)=true then(some (((⟨#[]⟩:ByteArray),false,()),(()))) else(cats (⟨#[39]⟩:ByteArray) (ba w) fun y2=>(some ((y2,true,()),(()))))))=some ((ba t,b,()),())
       ∧ (if(!(bb w).2)=true then((il (2,0,ba w,())).bind fun z7=>(if(decide ((ByteArray.size z7.1.1:Int) > 200))=true then(some (((⟨#[]⟩:ByteArray),false,()),(()))) else(some ((z7.1.1,true,()),(()))))) else((il (bb w).1).bind fun z8=>(if(decide ((ByteArray.size z8.1.1:Int) > 200))=true then(some (((⟨#[]⟩:ByteArray),false,()),(()))) else(some ((z8.1.1,true,()),(()))))))=some ((ba t,b,()),())∧t.length≤200:=by
      cases hr:(bb w).2 with
      | true =>
       obtain⟨k1,k2⟩:=oZ hr
       refine⟨w,true,rfl,?_,hl⟩
       simp only[Bool.not_true,Bool.false_eq_true,if_false]
       rw[gd (da k1),if_pos k1,k2]
       simp only[Option.bind_some]
       rw[ax (by rw[hsz]; omega)]
      | false =>
       simp only[Bool.not_false,Bool.false_eq_true,if_false,if_true]
       have hov:ao (2,0,ba w,())=true:=by
        unfold ao
        rw[if_pos rfl]
        simp only[decide_true,Bool.true_and]
        exact hp
       have htx:cB (2,0,ba w,())=ba (39 :: w):=by
        show(⟨#[39]⟩:ByteArray)++ba w=_
        rw[show(⟨#[39]⟩:ByteArray)=ba [39] from rfl,oq]
        rfl
       rw[gd (da hov),if_pos hov,htx,RA (by omega),show(⟨#[39]⟩:ByteArray)=ba [39] from rfl,oq]
       simp only[Option.bind_some,ay,List.length_cons]
       by_cases h2:w.length=200
       ·rw[if_pos (by simp[h2]),aF (by omega)]
        exact⟨[],false,rfl,rfl,by simp⟩
       ·rw[if_neg (by simp only[beq_iff_eq]; omega),ax (by omega)]
        exact⟨39 :: w,true,rfl,rfl,by rw[List.length_cons]; omega⟩
     cases ho:gA w with
     | true =>
      have hpv:=OU ho
      have hrg:=AG ho
      have hdg:(decide (jf w≠[]) && (jf w).all dx)=true:=by
       unfold gA jP at ho
       simp only[Bool.and_eq_true] at ho ⊢
       exact⟨ho.1,ho.2.1⟩
      have hok:ao (vN (lf w))=true:=by
       rw[Wh]
       exact bu.2 hrg
      have hit:=qz (n:=lf w) (by omega) (by omega)
      rw[n2 ho,hpv,hdg]
      simp only[if_true,hok]
      rw[xv (by omega) (by omega),gd (da hok),if_pos hok]
      refine⟨lb (dr (lf w)),true,?_,?_,by rw[jy]; omega⟩
      ·rw[eO]; rfl
      ·rw[eO]; rfl
     | false =>
      obtain⟨t,b,s1,s2,s3⟩:=tail
      refine⟨t,b,?_,?_,s3⟩
      ·cases h1:(cl w).2 with
       | false=>simpa using s1
       | true =>
        cases h2:(decide (jf w≠[]) && (jf w).all dx) with
        | false=>simpa using s1
        | true =>
         rw[YH ho h1 h2]
         simpa using s1
      ·simpa using s2
noncomputable def fE (x:ByteArray):ByteArray×Bool:=if h:x.size≤9223372036854775807 then(ba (AH h).choose,(AH h).choose_spec.choose) else(eS,false)
theorem zj {x:ByteArray} (h:x.size≤9223372036854775807):zS x=some (((fE x).1,(fE x).2,()),())∧rl x=some (((fE x).1,(fE x).2,()),())∧(fE x).1.size≤200:=by
 have hs:=(AH h).choose_spec.choose_spec
 unfold fE
 rw[dif_pos h]
 exact⟨hs.1,hs.2.1,by rw[ay]; exact hs.2.2⟩
noncomputable def ji (x:ByteArray):Bool:=(fE x).2 && !decide (x=eS) && decide ((fE x).1=x)
theorem CC {x:ByteArray} (h:x.size≤9223372036854775807):wu x=some ((ji x,()),()):=by
 rw[Mm,(zj h).1]
 simp only[Option.bind_some,AV]
 unfold ji
 cases (fE x).2 <;> by_cases hx:x=eS <;> simp[hx]
def ci (a b:al):Bool:=decide (a.2.1 < b.2.1) || (decide (a.2.1=b.2.1) && decide (a.1 < b.1))
theorem EC (a b:al):oS a b=some ((ci a b,()),()):=by
 rw[En]
 unfold ci
 by_cases h1:a.2.1 < b.2.1
 ·simp[h1]
 ·by_cases h2:a.2.1=b.2.1 <;> simp[h1,h2]
theorem Hp (a b:al) : ∃ k:Int,mq a b=some ((k,()),())∧(k < 0↔ci a b=true):=by
 rw[wI,w7,w7]
 simp only[Option.bind_some]
 rw[Fi (by simp)]
 refine⟨_,rfl,?_⟩
 unfold ci
 by_cases h1:a.2.1 < b.2.1
 ·simp[kF,h1]
 ·by_cases h2:b.2.1 < a.2.1
  ·have h3 : ¬a.2.1=b.2.1:=by omega
   simp[kF,h1,h2,h3]
  ·have h3:a.2.1=b.2.1:=by omega
   by_cases h4:a.1 < b.1
   ·simp[kF,h1,h2,h3,h4]
   ·by_cases h5:b.1 < a.1
    ·simp[kF,h1,h2,h3,h4,h5]
    ·simp[kF,h1,h2,h3,h4,h5]
noncomputable def CD:Option ae→List ae→Bool
 | _,[]=>true
 | o,c :: l=>bK c.1 && ji c.2.1 && (match o with | none=>true | some p=>ci p.1 c.1) && CD (some c) l
noncomputable def aW (s:List ae):Bool:=CD none s && decide (s.length≤120)
section
variable {s:List ae} (hs : ∀ c∈s,c.2.1.size≤9223372036854775807) (hl:s.length≤1000000000)
include hs hl
theorem Be : ∀(ys pre:List ae),s=pre++ys→og s s (s.length:Int) (pre.length:Int)=some ((CD pre.getLast? ys && decide (s.length≤120),()),())
 | [],pre,h=>by
  rw[yK,ax (bw h)]
  simp only[CD,Bool.true_and]
  congr 3
  rw[Bool.eq_iff_iff,decide_eq_true_eq,decide_eq_true_eq]
  omega
 | y :: ys,pre,h=>by
  have hy:=hs y (by rw[h]; simp)
  have ih:=Be ys (pre++[y]) (av h)
  rw[List.getLast?_append] at ih
  simp only[List.getLast?_singleton,Option.or_some,Option.some_or] at ih
  rw[yK,aF (bH h),bC h,sW]
  simp only[Option.bind_some,CD]
  cases hr:bK y.1 with
  | false=>simp
  | true =>
   simp only[Bool.not_true,Bool.false_eq_true,if_false,Bool.true_and]
   rcases List.eq_nil_or_concat pre with hp | ⟨q,z,hp⟩
   ·subst hp
    rw[ax (by simp),CC hy]
    simp only[Option.bind_some,List.getLast?_nil,Bool.and_true]
    cases ji y.2.1 with
    | false=>simp
    | true =>
     simp only[Bool.not_true,Bool.false_eq_true,if_false,Bool.true_and]
     rw[aO (pre:=[]) h (by omega)]
     exact ih
   ·rw[List.concat_eq_append] at hp
    subst hp
    have hz:s=q++z :: (y :: ys):=by rw[h]; simp
    have hql:((q++[z]).length:Int) - 1=(q.length:Int):=by simp
    have hqs:q.length < s.length:=by rw[hz]; simp
    rw[aF (by simp),hql,wr (by omega) (by omega),bC hz]
    obtain⟨k,k1,k2⟩:=Hp z.1 y.1
    rw[k1]
    simp only[Option.bind_some,List.getLast?_append,List.getLast?_singleton,Option.some_or]
    by_cases hk:k < 0
    ·rw[ax (by omega),CC hy,k2.1 hk]
     simp only[Option.bind_some,Bool.and_true]
     cases ji y.2.1 with
     | false=>simp
     | true =>
      simp only[Bool.not_true,Bool.false_eq_true,if_false,Bool.true_and]
      rw[aO h (by omega)]
      exact ih
    ·have:ci z.1 y.1=false:=by
      rw[Bool.eq_false_iff]
      exact fun e=>hk (k2.2 e)
     rw[aF (by omega),this]
     simp
theorem sq:rn s=some ((aW s,()),()):=by
 rw[Oz]
 exact Be hs hl s [] rfl
end
def W2 (c:UInt8):Bool:=decide (c=43) || decide (c=45) || decide (c=42) || decide (c=47) || decide (c=38) || decide (c=61) || decide (c=60) || decide (c=62) || decide (c=41) || decide (c=44)
def Bf:ag→Bool
 | []=>true
 | c :: _=>W2 c
theorem IA (c:UInt8):W2 c=true→aL c=false∧c≠32∧c≠34∧c≠58∧c≠40∧Cy c=false :=
 qB (p:=fun c=>W2 c=true→aL c=false∧c≠32∧c≠34∧c≠58∧c≠40∧Cy c=false) (by decide +kernel) c
theorem Sd {r:ag} (h:Bf r=true):bl r=r:=by
 cases r with
 | nil=>rfl
 | cons c t=>exact List.dropWhile_cons_of_neg (by rw[(IA c h).2.2.2.2.2]; decide)
theorem Se {r:ag} (h:Bf r=true):r.takeWhile aL=[]∧r.dropWhile aL=r:=by
 cases r with
 | nil=>exact⟨rfl,rfl⟩
 | cons c t =>
  have:=(IA c h).1
  exact⟨List.takeWhile_cons_of_neg (by rw[this]; decide),List.dropWhile_cons_of_neg (by rw[this]; decide)⟩
theorem W3 {r:ag} (h:Bf r=true):r.head? ≠ some 34∧r.head? ≠ some 58∧r.head? ≠ some 32:=by
 cases r with
 | nil=>exact⟨by decide,by decide,by decide⟩
 | cons c t =>
  obtain⟨_,h1,h2,h3,_⟩:=IA c h
  simp only[List.head?_cons,ne_eq,Option.some.injEq]
  exact⟨h2,h3,h1⟩
theorem xg {w r:ag} (hw:w.all aL=true) (h:r.takeWhile aL=[]∧r.dropWhile aL=r):(w++r).takeWhile aL=w∧(w++r).dropWhile aL=r:=by
 rw[List.all_eq_true] at hw
 obtain⟨h1,h2⟩:=h
 rw[List.takeWhile_append_of_pos hw,List.dropWhile_append_of_pos hw,h1,h2,List.append_nil]
 exact⟨rfl,rfl⟩
theorem Fx {w r:ag} (hw:w.all aL=true) (h:Bf r=true):(w++r).takeWhile aL=w∧(w++r).dropWhile aL=r:=xg hw (Se h)
theorem Sf {op:Int} (h0:1≤op) (h1:op≤11) (t:ag):Bf (du op++t)=true:=by
 have : ∀ k:Fin 12,1≤k.val→(match du (k.val:Int) with | []=>false | c :: _=>W2 c)=true:=by decide +kernel
 have h:=this ⟨op.toNat,by omega⟩ (by simp only; omega)
 simp only[Int.toNat_of_nonneg (show 0≤op by omega)] at h
 cases ho:du op with
 | nil=>rw[ho] at h; cases h
 | cons c l =>
  rw[ho] at h
  exact h
def Uo (c:UInt8):Bool:=aL c || decide (c=34) || decide (c=35) || decide (c=40) || decide (c=45)
theorem P3 (c:UInt8):Uo c=true→c≠32∧c≠61∧c≠62∧Cy c=false :=
 qB (p:=fun c=>Uo c=true→c≠32∧c≠61∧c≠62∧Cy c=false) (by decide +kernel) c
def J9:ag→Bool
 | []=>false
 | c :: _=>Uo c
theorem Sg {m:ag} (h:J9 m=true):bl m=m:=by
 cases m with
 | nil=>cases h
 | cons c t=>exact List.dropWhile_cons_of_neg (by rw[(P3 c h).2.2.2]; decide)
theorem rG {m:ag} (h:J9 m=true) (r:ag):J9 (m++r)=true:=by
 cases m with
 | nil=>cases h
 | cons c t=>exact h
theorem Uq {op:Int} (h0:1≤op) (h1:op≤11) {t:ag} (h:J9 t=true):ez (du op++t)=op:=by
 cases t with
 | nil=>cases h
 | cons c t =>
  obtain⟨_,h2,h3,_⟩:=P3 c h
  have:op=1∨op=2∨op=3∨op=4∨op=5∨op=6∨op=7∨op=8∨op=9∨op=10∨op=11:=by omega
  rcases this with rfl | rfl | rfl | rfl | rfl | rfl | rfl | rfl | rfl | rfl | rfl <;> simp[du,ez,gO,h2,h3]
theorem Fy (op:Int):1≤cn op∧cn op≤4:=by
 unfold cn
 repeat' split
 all_goals omega
theorem K0 {r:ag} (h:r=[]∨r.head? = some 41∨r.head? = some 44):Bf r=true∧ez r=0:=by
 rcases h with rfl | h | h
 ·exact⟨rfl,rfl⟩
 ·obtain⟨t,rfl⟩:=iy h
  exact⟨rfl,rfl⟩
 ·obtain⟨t,rfl⟩:=iy h
  exact⟨rfl,rfl⟩
theorem Ur {l:ag} (h:l.all dx=true):l.all aL=true:=by
 rw[List.all_eq_true] at h ⊢
 intro c hc
 unfold aL
 rw[h c hc]
 simp
theorem Za {l:ag} (h:l.all eZ=true):l.all aL=true:=by
 rw[List.all_eq_true] at h ⊢
 intro c hc
 unfold aL
 rw[h c hc]
 simp
theorem oK {p:bJ} (h:bK p.1=true):(fz p).all aL=true ∧ ∃ c t,fz p=c :: t∧(c=36∨eZ c=true):=by
 obtain⟨c,r,fc,fr,rfl,h1,h2,h3,h4⟩:=w9 h
 have hu:(gN c).all eZ=true:=Il ⟨c,by omega⟩ h1
 have hd:=Dp (rs r)
 have hx : ∀ b,(qE b).all aL=true:=by decide
 show(tK c r fc fr).all aL=true ∧ ∃ d t,tK c r fc fr=d :: t∧_
 unfold tK
 refine⟨?_,?_⟩
 ·rw[List.all_append,List.all_append,List.all_append,hx,hx,Za hu,Ur hd]
  rfl
 ·cases fc with
  | true=>exact⟨36,_,rfl,.inl rfl⟩
  | false =>
   cases hcl:gN c with
   | nil =>
    have:=(rx c).1
    rw[hcl] at this
    simp at this
   | cons y l =>
    rw[hcl] at hu
    simp only[List.all_cons,Bool.and_eq_true] at hu
    exact⟨y,_,rfl,.inr hu.1⟩
theorem W4 (c:UInt8):(c=36∨eZ c=true)→c≠39∧c≠35∧c≠45∧c≠34∧c≠40∧dx c=false :=
 qB (p:=fun c=>(c=36∨eZ c=true)→c≠39∧c≠35∧c≠45∧c≠34∧c≠40∧dx c=false) (by decide +kernel) c
theorem Wj {p:bJ} (h:bK p.1=true):(bb (fz p)).2=false:=by
 obtain⟨_,c,t,e,hc⟩:=oK h
 obtain⟨n1,n2,n3,_,_,n4⟩:=W4 c hc
 have hp:=pA h
 have k : ∀ w:ag,(cN w).2=false→fz p≠w:=fun w hw e=>by
  rw[←e,hp] at hw
  cases hw
 have k1:=k jh (by decide +kernel)
 have k2:=k jN (by decide +kernel)
 have hv:xa (fz p)=(9,0,eS,()):=by
  unfold xa
  rw[if_neg k1,if_neg k2,e,if_neg (by simp),if_neg (by simpa using n1),if_neg (by simpa using n2),if_neg (by simpa using n3),if_neg]
  intro hr
  unfold cU j6 at hr
  simp[n4] at hr
 unfold bb
 rw[hv]
 rfl
theorem Us {f:List aa} {k:Nat} {x:aa} (h:f[k]? = some x):f.take k++[x]=f.take (k+1):=by
 rw[List.take_add_one,h]
 rfl
theorem CE {f:List aa} (hf:f.length≤60) {k:Nat} {x:aa} (h:f[k]? = some x) (l:ag):aG x (ba l) false (f.take k)=some (((k:Int),()),((ba l,f.take (k+1),false,()),())):=by
 have hk:=(List.getElem?_eq_some_iff.1 h).1
 have hl:(f.take k).length=k:=by rw[List.length_take]; omega
 obtain⟨i,h1,h2⟩:=zg (x:=x) (l:=l) (b:=false) (ns:=f.take k) (by omega)
 rw[h1,h2 rfl (by omega),hl,if_pos ⟨rfl,by omega⟩,Us h,decide_eq_false (by omega)]
 rfl
def Hq (f:List aa) (n:Nat) (call:Bool):List Int→Int→Int→Prop
 | [],s,e=>s=e
 | y :: ys,s,e=>(∃ h,dV f n y=some (s,h))∧(fQ f y=true→call=true)∧Hq f n call ys (y+1) e
theorem Ny {f:List aa} {n:Nat} {call:Bool} {kid m s e:Int} (hc : ∃ h,dV f n kid=some (m,h)) (ha:fQ f kid=true→call=true) (he:kid+1=e) : ∀ {l:List Int} {s:Int},Hq f n call l s m→Hq f n call (l++[kid]) s e
 | [],s,h=>by
  have h:s=m:=h
  subst h
  exact⟨hc,ha,he⟩
 | y :: ys,s,h=>⟨h.1,h.2.1,Ny (s:=s) hc ha he h.2.2⟩
theorem Ut {f:List aa} {n:Nat} {call:Bool} : ∀ {l:List Int} {cur:Int} {h:Nat} {s:Int} {h':Nat},fB (dV f n) f call l cur h=some (s,h')→Hq f n call l.reverse s cur
 | [],cur,h,s,h',e=>by
  simp only[fB,Option.some.injEq,Prod.mk.injEq] at e
  exact e.1.symm
 | kid :: l,cur,h,s,h',e=>by
  simp only[fB] at e
  split at e
  ·rename_i hk
   rw[Option.bind_eq_some_iff] at e
   obtain⟨p,hp,e⟩:=e
   rw[List.reverse_cons]
   exact Ny (s:=s) ⟨p.2,hp⟩ hk.2.2 (by omega) (Ut e)
  ·cases e
theorem rH {f:List aa} {n:Nat} {k s:Int} {h:Nat} (e:dV f (n+1) k=some (s,h)):0≤k ∧ ∃ x,f[k.toNat]? = some x∧cm f k=x∧df x=true∧Hq f n (decide (x.1=6)) x.2.2.2.2.2.1 s k:=by
 simp only[dV] at e
 split at e
 ·rename_i h0
  split at e
  ·cases e
  ·rename_i x hx
   split at e
   ·rename_i hok
    refine⟨h0,x,hx,?_,hok,?_⟩
    ·unfold cm
     rw[List.getD_eq_getElem?_getD,hx]
     rfl
    ·have:=Ut e
     rwa[List.reverse_reverse] at this
   ·cases e
 ·cases e
theorem CF {f:List aa} {k:Int} {x:aa} (h:cm f k=x):fQ f k=decide (x.1=3):=by
 unfold cm at h
 unfold fQ
 rw[h]
theorem rI {x y:aa} (h1:x.1=y.1) (h2:x.2.1=y.2.1) (h3:x.2.2.1=y.2.2.1) (h4:x.2.2.2.1=y.2.2.2.1) (h5:x.2.2.2.2.1=y.2.2.2.2.1) (h6:x.2.2.2.2.2.1=y.2.2.2.2.2.1):x=y :=
 Prod.ext h1 (Prod.ext h2 (Prod.ext h3 (Prod.ext h4 (Prod.ext h5 (Prod.ext h6 rfl)))))
theorem YI {x:aa} (h:kl x=0):x.2.2.2.2.2.1=[]:=by
 unfold kl at h
 exact List.eq_nil_of_length_eq_zero (by omega)
theorem Zv {x:aa} (h:kl x=1) : ∃ a,x.2.2.2.2.2.1=[a]:=by
 unfold kl at h
 exact List.length_eq_one_iff.1 (by omega)
theorem Zw {x:aa} (h:kl x=2) : ∃ a b,x.2.2.2.2.2.1=[a,b]:=by
 unfold kl at h
 match hx:x.2.2.2.2.2.1,h with
 | [a,b],_=>exact⟨a,b,rfl⟩
inductive NK:aa→Prop
 | con (v:ab) (h:ao v=true) (h0:v.1≠0) (h1:v.1=1→0≤v.2.1):NK (nC v)
 | cell (p:bJ) (h:bK p.1=true):NK (nP p)
 | area (p q:bJ) (h:lw (p.1,q.1,())=true):NK (nA p q)
 | neg (a:Int):NK (4,0,v0,p0,p0,[a],())
 | bin (op a b:Int) (h0:1≤op) (h1:op≤11):NK (5,op,v0,p0,p0,[a,b],())
 | call (op:Int) (ks:List Int) (h:kG op (ks.length:Int)=true):NK (6,op,v0,p0,p0,ks,())
theorem DA {x:aa} (h:df x=true):NK x:=by
 unfold df at h
 by_cases c1:x.1=1
 ·rw[if_pos c1] at h
  simp only[Bool.and_eq_true,Bool.or_eq_true,decide_eq_true_eq,Bool.not_eq_true',decide_eq_false_iff_not] at h
  obtain⟨⟨⟨⟨⟨⟨a1,a2⟩,a3⟩,a4⟩,a5⟩,a6⟩,a7⟩:=h
  have e:x=nC x.2.2.1:=rI c1 a1 rfl a2 a3 (YI a4)
  rw[e]
  exact .con _ a5 a6 (fun k=>a7.elim (fun n=>absurd k n) id)
 ·rw[if_neg c1] at h
  by_cases c2:x.1=2
  ·rw[if_pos c2] at h
   simp only[Bool.and_eq_true,decide_eq_true_eq] at h
   obtain⟨⟨⟨⟨a1,a2⟩,a3⟩,a4⟩,a5⟩:=h
   have e:x=nP x.2.2.2.1:=rI c2 a1 a2 rfl a3 (YI a4)
   rw[e]
   exact .cell _ a5
  ·rw[if_neg c2] at h
   by_cases c3:x.1=3
   ·rw[if_pos c3] at h
    simp only[Bool.and_eq_true,decide_eq_true_eq] at h
    obtain⟨⟨⟨a1,a2⟩,a4⟩,a5⟩:=h
    have e:x=nA x.2.2.2.1 x.2.2.2.2.1:=rI c3 a1 a2 rfl rfl (YI a4)
    rw[e]
    exact .area _ _ a5
   ·rw[if_neg c3] at h
    by_cases c4:x.1=4
    ·rw[if_pos c4] at h
     simp only[Bool.and_eq_true,decide_eq_true_eq] at h
     obtain⟨⟨⟨⟨a1,a2⟩,a3⟩,a4⟩,a5⟩:=h
     obtain⟨a,ha⟩:=Zv a5
     have e:x=(4,0,v0,p0,p0,[a],()):=rI c4 a1 a2 a3 a4 ha
     rw[e]
     exact .neg a
    ·rw[if_neg c4] at h
     by_cases c5:x.1=5
     ·rw[if_pos c5] at h
      simp only[Bool.and_eq_true,decide_eq_true_eq] at h
      obtain⟨⟨⟨⟨a1,a2⟩,a3⟩,a4⟩,a5⟩:=h
      obtain⟨a,b,ha⟩:=Zw a5
      obtain⟨g0,g1⟩:=bu.1 a1
      have e:x=(5,x.2.1,v0,p0,p0,[a,b],()):=rI c5 rfl a2 a3 a4 ha
      rw[e]
      exact .bin _ a b g0 g1
     ·rw[if_neg c5] at h
      by_cases c6:x.1=6
      ·rw[if_pos c6] at h
       simp only[Bool.and_eq_true,decide_eq_true_eq] at h
       obtain⟨⟨⟨a1,a2⟩,a3⟩,a4⟩:=h
       have e:x=(6,x.2.1,v0,p0,p0,x.2.2.2.2.2.1,()):=rI c6 rfl a2 a3 a4 rfl
       rw[e]
       exact .call _ _ a1
      ·rw[if_neg c6] at h
       cases h
theorem YJ {deep:Int} {l:ag} {ns:List aa} (h0:0≤deep) (h1:deep+(l.length:Int)≤400) (h:(bl l).head? = some 45) :
  fa deep (ba l) false ns=(fa (deep+1) (ba ((bl l).drop 1)) false ns).bind fun z=>aG (R7 z.1.1) z.2.1.1 z.2.1.2.2.1 z.2.1.2.1:=by
 rw[k8,ax (by omega)]
 simp only[Bool.false_eq_true,if_false,gP]
 rw[show(⟨#[45]⟩:ByteArray)=ba [45] from rfl,cY (by omega)]
 simp only[Option.bind_some,ig (c:=45) (.inl rfl),List.length_singleton]
 simp only[h,decide_true,if_true]
 rw[wr (by omega) (by omega)]
theorem uD {deep:Int} {l:ag} {ns:List aa} (h0:0≤deep) (h1:deep+(l.length:Int)≤400) (h:(bl l).head? ≠ some 45) :
  fa deep (ba l) false ns=fK deep (ba (bl l)) false ns:=by
 rw[k8,ax (by omega)]
 simp only[Bool.false_eq_true,if_false,gP]
 rw[show(⟨#[45]⟩:ByteArray)=ba [45] from rfl,cY (by omega)]
 simp only[Option.bind_some,ig (c:=45) (.inl rfl),List.length_singleton]
 simp only[h,decide_false,Bool.false_eq_true,if_false]
theorem DB {least deep left:Int} {r:ag} {ns:List aa} (hl:r.length≤400) (h:Bf r=true) (ho:ez r=0∨cn (ez r) < least):cw least deep left (ba r) false ns=some ((left,()),((ba r,ns,false,()),())):=by
 rw[fN]
 simp only[Bool.not_false,if_true]
 obtain⟨o1,o2⟩:=mP (bl r)
 rw[vG (by omega),zi o1 o2 (by rw[Sd h]; omega) (fun h=>by rw[dF]; exact ry h),Sd h,if_pos ho]
theorem Zb {least deep left op:Int} {t:ag} {ns:List aa} (h0:1≤op) (h1:op≤11) (ht:J9 t=true) (hl:t.length≤390) (hv:least≤cn op) :
  cw least deep left (ba (du op++t)) false ns=(bo (cn op+1) deep (ba t) false ns).bind fun z7=>((aG (5,op,(0,0,(⟨#[]⟩:ByteArray),()),((0,0,()),false,false,()),((0,0,()),false,false,()),([left,z7.1.1]:(List Int)),()) z7.2.1.1 z7.2.1.2.2.1 z7.2.1.2.1).bind fun z8=>(cw least deep z8.1.1 z8.2.1.1 z8.2.1.2.2.1 z8.2.1.2.1)):=by
 have hs:=Sf h0 h1 t
 have hb:=Sd hs
 have ho:=Uq h0 h1 ht
 have hln:=zf op
 have hll:(du op++t).length≤400:=by rw[List.length_append]; omega
 rw[fN]
 simp only[Bool.not_false,if_true]
 obtain⟨o1,o2⟩:=mP (bl (du op++t))
 rw[vG (by omega),zi o1 o2 (by rw[hb]; omega) (fun h=>by rw[dF]; exact ry h),dF,hb,ho,if_neg (by omega),List.drop_left' rfl]
theorem YK {deep:Int} {m:ag} {ns:List aa} (hl:m.length≤400):fK deep (ba (40 :: m)) false ns=((bo 1 (IntKind.i64.wrap (deep+1)) (ba m) false ns).bind fun z6=>(if z6.2.1.2.2.1=true then(some ((z6.1.1,()),((z6.2.1.1,z6.2.1.2.1,true,()),()))) else((bi (⟨#[41]⟩:ByteArray) z6.2.1.1 z6.2.1.2.2.1 z6.2.1.2.1).bind fun z7=>(some ((z6.1.1,()),((z7.2.1.1,z7.2.1.2.1,(!z7.1.1),()),())))))):=by
 have hb:bl (40 :: m)=40 :: m:=List.dropWhile_cons_of_neg (by decide)
 rw[rA (by rw[List.length_cons]; omega),hb,if_neg (by simp),if_neg (by simp),if_pos (by simp)]
 rfl
theorem P4 {r:ag} {ns:List aa} (hl:r.length≤400):bi (⟨#[41]⟩:ByteArray) (ba (41 :: r)) false ns=some ((true,()),((ba r,ns,false,()),())):=by
 have hb:bl (41 :: r)=41 :: r:=List.dropWhile_cons_of_neg (by decide)
 have hs:sg (41 :: r)=[41]:=by rw[ig (c:=41) (.inr (.inr (.inl rfl)))]; rfl
 rw[show(⟨#[41]⟩:ByteArray)=ba [41] from rfl,cY (by rw[List.length_cons]; omega),hb,hs]
 rfl
theorem XK {r:ag} {ns:List aa} (hl:r.length≤400):bi (⟨#[44]⟩:ByteArray) (ba (44 :: r)) false ns=some ((true,()),((ba r,ns,false,()),())):=by
 have hb:bl (44 :: r)=44 :: r:=List.dropWhile_cons_of_neg (by decide)
 have hs:sg (44 :: r)=[44]:=by rw[ig (c:=44) (.inr (.inr (.inr (.inl rfl))))]; rfl
 rw[show(⟨#[44]⟩:ByteArray)=ba [44] from rfl,cY (by rw[List.length_cons]; omega),hb,hs]
 rfl
theorem Wk {r:ag} {ns:List aa} (hl:r.length≤400):bi (⟨#[44]⟩:ByteArray) (ba (41 :: r)) false ns=some ((false,()),((ba (41 :: r),ns,false,()),())):=by
 have hb:bl (41 :: r)=41 :: r:=List.dropWhile_cons_of_neg (by decide)
 have hs : ¬sg (41 :: r)=[44]:=by rw[ig (c:=44) (.inr (.inr (.inr (.inl rfl))))]; simp
 rw[show(⟨#[44]⟩:ByteArray)=ba [44] from rfl,cY (by rw[List.length_cons]; omega),hb,if_neg hs]
 simp[hs]
theorem Si : ∀(x r:ag),r.head? ≠ some 34→qt (qT x++34 :: r)=some (x,r)
 | [],r,h=>by
  cases r with
  | nil=>exact He
  | cons d r =>
   have hd:d≠34:=fun e=>h (by rw[e]; rfl)
   exact Ds hd
 | c :: x,r,h=>by
  unfold qT
  by_cases hc:c=34
  ·subst hc
   rw[if_pos rfl]
   show qt (34 :: 34 :: (qT x++34 :: r))=_
   rw[Hf,Si x r h]
   rfl
  ·rw[if_neg hc]
   show qt (c :: (qT x++34 :: r))=_
   rw[AB hc,Si x r h]
   rfl
theorem Uu {deep:Int} {x r:ag} {ns:List aa} (hl:(qT x).length+r.length≤390) (hr:r.head? ≠ some 34):fK deep (ba (34 :: (qT x++34 :: r))) false ns=aG (nC (2,0,ba x,())) (ba r) false ns:=by
 have hb:bl (34 :: (qT x++34 :: r))=34 :: (qT x++34 :: r):=List.dropWhile_cons_of_neg (by decide)
 have hll:(qT x++34 :: r).length≤400:=by simp only[List.length_append,List.length_cons]; omega
 rw[rA (by rw[List.length_cons]; omega),hb,if_pos (by simp),AC (by omega),Si x r hr]
 show bO (2,0,ba ([]++x),()) (ba r) false ns=_
 rw[jO]
 rfl
theorem CG {deep:Int} {w r:ag} {ns:List aa} (hl:w.length+r.length≤390) (hw:w.all aL=true) (hne:w≠[]) (hr:r.takeWhile aL=[]∧r.dropWhile aL=r):fK deep (ba (w++r)) false ns=fh deep w r false ns:=by
 obtain⟨c,t,rfl⟩ : ∃ c t,w=c :: t:=by
  cases w with
  | nil=>exact absurd rfl hne
  | cons c t=>exact⟨c,t,rfl⟩
 have hc:aL c=true:=by simp only[List.all_cons,Bool.and_eq_true] at hw; exact hw.1
 have hn:c≠32∧c≠34∧c≠35∧c≠40∧Cy c=false:=qB (p:=fun c=>aL c=true→c≠32∧c≠34∧c≠35∧c≠40∧Cy c=false) (by decide +kernel) c hc
 have hb:bl (c :: t++r)=c :: t++r:=List.dropWhile_cons_of_neg (by rw[hn.2.2.2.2]; decide)
 obtain⟨h1,h2⟩:=xg hw hr
 rw[rA (by rw[List.length_append]; omega),hb,h1,h2,if_neg (by simp[hn.2.1]),if_neg (by simp[hn.2.2.1]),if_neg (by simp[hn.2.2.2.1])]
theorem P5 (u:Nat):(Lib.decDigits u).all aL=true:=Ur (Dp (rs u))
theorem DC {v:ab} (h:ao v=true) (h0:v.1≠0) (h1:v.1=1→0≤v.2.1) (h2:v.1≠2):(∃ n:Fin 6,v=vE (n.val:Int)∧1≤n.val)∨((lb (cB v)).all aL=true∧lb (cB v)≠[]∧(v.1=1∨v.1=3)):=by
 rcases sn h with e | ⟨n,e,_⟩ | ⟨t,e⟩ | ⟨b,e⟩ | ⟨n,e,k⟩
 ·rw[e] at h0
  exact absurd rfl h0
 ·right
  subst e
  have hn:0≤n:=h1 rfl
  obtain⟨u,rfl⟩:=Int.eq_ofNat_of_zero_le hn
  have e:lb (cB (vN ((u:Nat):Int)))=Lib.decDigits u:=by
   show lb (dr ((u:Nat):Int))=_
   rw[mO,dP]
  rw[e]
  exact⟨P5 u,zd.1,.inl rfl⟩
 ·rw[e] at h2
  exact absurd rfl h2
 ·right
  subst e
  cases b
  ·exact⟨by decide +kernel,by decide +kernel,.inr rfl⟩
  ·exact⟨by decide +kernel,by decide +kernel,.inr rfl⟩
 ·exact .inl ⟨n,e,k⟩
theorem Wl : ∀(n:Fin 6),1≤n.val → ∀ r:ag,qH.find? (gX (dz (n.val:Int)++r))=some (n.val:Int):=by
 intro n hn r
 have e1:dz 1=[68,73,86,33]∧dz 2=[84,89,80,69,33]∧dz 3=[82,69,70,33]:=by decide +kernel
 have hd : ∀ n m:Fin 6,1≤n.val→1≤m.val→m.val < n.val → ∃ i:Fin 10,(dz (n.val:Int))[i.val]? ≠ (dz (m.val:Int))[i.val]? ∧ i.val < (dz (n.val:Int)).length∧i.val < (dz (m.val:Int)).length:=by decide +kernel
 have no : ∀ m:Fin 6,1≤m.val→m.val < n.val→gX (dz (n.val:Int)++r) (m.val:Int)=false:=by
  intro m h1 h2
  obtain⟨i,h3,h4,h5⟩:=hd n m hn h1 h2
  rw[Bool.eq_false_iff]
  intro hp
  unfold gX at hp
  obtain⟨t,ht⟩:=List.isPrefixOf_iff_prefix.1 hp
  have:=congrArg (fun l:ag=>l[i.val]?) ht
  simp only[List.getElem?_append_left h5,List.getElem?_append_left h4] at this
  exact h3 this.symm
 have yes:gX (dz (n.val:Int)++r) (n.val:Int)=true:=by
  unfold gX
  rw[List.isPrefixOf_iff_prefix]
  exact⟨r,rfl⟩
 have hc:n.val=1∨n.val=2∨n.val=3∨n.val=4∨n.val=5:=by omega
 have nm : ∀ m:Nat,(h:m < 6)→1≤m→m < n.val→gX (dz (n.val:Int)++r) (m:Int)=false:=fun m h h1 h2=>no ⟨m,h⟩ h1 h2
 rcases hc with h | h | h | h | h
 ·rw[h] at nm yes ⊢
  simp only[qH,List.find?_cons]
  rw[show gX (dz ((1:Nat):Int)++r) 1=true from yes]
  rfl
 ·rw[h] at nm yes ⊢
  simp only[qH,List.find?_cons]
  rw[show gX (dz ((2:Nat):Int)++r) 1=false from nm 1 (by decide) (by decide) (by decide),show gX (dz ((2:Nat):Int)++r) 2=true from yes]
  rfl
 ·rw[h] at nm yes ⊢
  simp only[qH,List.find?_cons]
  rw[show gX (dz ((3:Nat):Int)++r) 1=false from nm 1 (by decide) (by decide) (by decide),show gX (dz ((3:Nat):Int)++r) 2=false from nm 2 (by decide) (by decide) (by decide),show gX (dz ((3:Nat):Int)++r) 3=true from yes]
  rfl
 ·rw[h] at nm yes ⊢
  simp only[qH,List.find?_cons]
  rw[show gX (dz ((4:Nat):Int)++r) 1=false from nm 1 (by decide) (by decide) (by decide),show gX (dz ((4:Nat):Int)++r) 2=false from nm 2 (by decide) (by decide) (by decide),show gX (dz ((4:Nat):Int)++r) 3=false from nm 3 (by decide) (by decide) (by decide),show gX (dz ((4:Nat):Int)++r) 4=true from yes]
  rfl
 ·rw[h] at nm yes ⊢
  simp only[qH,List.find?_cons]
  rw[show gX (dz ((5:Nat):Int)++r) 1=false from nm 1 (by decide) (by decide) (by decide),show gX (dz ((5:Nat):Int)++r) 2=false from nm 2 (by decide) (by decide) (by decide),show gX (dz ((5:Nat):Int)++r) 3=false from nm 3 (by decide) (by decide) (by decide),
   show gX (dz ((5:Nat):Int)++r) 4=false from nm 4 (by decide) (by decide) (by decide),show gX (dz ((5:Nat):Int)++r) 5=true from yes]
  rfl
theorem Wm {deep:Int} {n:Fin 6} (hn:1≤n.val) {r:ag} {ns:List aa} (hl:r.length≤390):fK deep (ba (lb (dg (n.val:Int))++r)) false ns=aG (nC (vE (n.val:Int))) (ba r) false ns:=by
 have f : ∀ n:Fin 6,1≤n.val→dg (n.val:Int)=ba (35 :: dz (n.val:Int))∧(dz (n.val:Int)).length≤10:=by decide +kernel
 obtain⟨f1,f2⟩:=f n hn
 rw[f1,dP,List.cons_append]
 have hb:bl (35 :: (dz (n.val:Int)++r))=35 :: (dz (n.val:Int)++r):=List.dropWhile_cons_of_neg (by decide)
 have hll:(dz (n.val:Int)++r).length≤400:=by rw[List.length_append]; omega
 rw[rA (by rw[List.length_cons]; omega),hb,if_neg (by simp),if_pos (by simp),It (by omega),Wl n hn r]
 simp only
 rw[jO,List.drop_left' rfl]
theorem Hr {op:Int} (h0:1≤op) (h1:op≤10):(dM op).all aL=true∧dM op≠[]∧(bb (dM op)).2=false∧(cN (dM op)).2=false∧mQ.find? (fun k=>decide (dM k=dM op))=some op:=by
 have : ∀ k:Fin 11,1≤k.val→(dM (k.val:Int)).all aL=true∧dM (k.val:Int)≠[]∧(bb (dM (k.val:Int))).2=false∧(cN (dM (k.val:Int))).2=false∧mQ.find? (fun j=>decide (dM j=dM (k.val:Int)))=some (k.val:Int):=by decide +kernel
 have h:=this ⟨op.toNat,by omega⟩ (by simp only; omega)
 simpa only[Int.toNat_of_nonneg (show 0≤op by omega)] using h
theorem DD {op k:Int} (h:kG op k=true):1≤op∧op≤10∧1≤k∧k≤10:=by
 unfold kG at h
 split at h
 ·simp only[Bool.or_eq_true,decide_eq_true_eq] at h
  omega
 ·split at h
  ·rename_i h1
   have:=bu.1 h1
   have:=bu.1 h
   omega
  ·split at h
   ·rename_i h1
    have:=bu.1 h1
    simp only[decide_eq_true_eq] at h
    omega
   ·cases h
end Go.Proofs.YtnodjiikdgmeaaaGreatDoor.Abs
