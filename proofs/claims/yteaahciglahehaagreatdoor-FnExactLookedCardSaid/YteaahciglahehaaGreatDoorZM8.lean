/- Plain laws: both readers of formulas are one. -/
import Derived.Test.YteaahciglahehaaGreatDoorZM7
import Derived.Lib.SplitLaws
import Derived.Test.YteaahciglahehaaGreatDoorZM6
set_option linter.unusedVariables false
set_option linter.unusedSimpArgs false
set_option linter.unusedSectionVars false
namespace Go.Proofs.YteaahciglahehaaGreatDoor.Abs
open Go
noncomputable def DB:Nat→Int→(Int×Unit)×(lf×Unit)→RS
 | 0,_,z=>some ((z.1.1,()),(z.2.1,()))
 | c+1,L,z=>(dp (L+(c:Int)) z.1.1 z.2.1.1 z.2.1.2.1 z.2.1.2.2.1 z.2.1.2.2.2.1).bind (DB c L)
theorem Jl {L a:Int} {s:ByteArray} {i:Int} {ns:List aa}:dp L a s i true ns=some ((a,()),((s,i,true,ns,()),())):=by
 rw[xw]
 rfl
theorem Et : ∀(c:Nat) (L a:Int) (s:ByteArray) (i:Int) (ns:List aa),DB c L ((a,()),((s,i,true,ns,()),()))=some ((a,()),((s,i,true,ns,()),()))
 | 0,_,_,_,_,_=>rfl
 | c+1,L,a,s,i,ns=>by
  show(dp _ a s i true ns).bind (DB c L)=_
  rw[Jl]
  exact Et c L a s i ns
theorem Ox : ∀(c:Nat) (L:Int) (z:(Int×Unit)×(lf×Unit)),DB (c+1) L z=(DB c (L+1) z).bind fun z2=>dp L z2.1.1 z2.2.1.1 z2.2.1.2.1 z2.2.1.2.2.1 z2.2.1.2.2.2.1
 | 0,L,z=>by
  show(dp (L+((0:Nat):Int)) z.1.1 z.2.1.1 z.2.1.2.1 z.2.1.2.2.1 z.2.1.2.2.2.1).bind (fun z=>some ((z.1.1,()),(z.2.1,())))=dp L z.1.1 z.2.1.1 z.2.1.2.1 z.2.1.2.2.1 z.2.1.2.2.2.1
  rw[gU,show L+((0:Nat):Int)=L by omega]
 | c+1,L,z=>by
  show(dp (L+((c+1:Nat):Int)) z.1.1 z.2.1.1 z.2.1.2.1 z.2.1.2.2.1 z.2.1.2.2.2.1).bind (DB (c+1) L)=((dp (L+1+(c:Int)) z.1.1 z.2.1.1 z.2.1.2.1 z.2.1.2.2.1 z.2.1.2.2.2.1).bind (DB c (L+1))).bind _
  rw[show L+((c+1:Nat):Int)=L+1+(c:Int) by omega,Option.bind_assoc]
  congr 1
  funext y
  exact Ox c L y
theorem H7 {s:ByteArray} {a:Int} {ns:List aa} : ∀(c:Nat) (L:Int),L+(c:Int)=5→1≤L→eR L s a false ns=(eR 5 s a false ns).bind (DB c L)
 | 0,L,h,_=>by
  have:L=5:=by omega
  subst this
  exact gU.symm
 | c+1,L,h,h1=>by
  have hL : ¬(L == 5)=true:=by simp only[beq_iff_eq]; omega
  rw[C7,if_neg (by decide),if_neg hL,wr (by omega) (by omega),H7 c (L+1) (by omega) (by omega),Option.bind_assoc]
  congr 1
  funext z
  exact(Ox c L z).symm
abbrev nB (op a b:Int):aa:=(5,op,(0,0,(⟨#[]⟩:ByteArray),()),((0,0,()),false,false,()),((0,0,()),false,false,()),([a,b]:(List Int)),())
theorem Xx {s m' l1 l2:al} {L':Int} {x:aa} {ns:List aa} {K:(Int×Unit)×(rM×Unit)→RI} {K':(Int×Unit)×(lf×Unit)→RS} (hsx:xW x=true) (ho:dw ns=true) (hn:ns.length≤60)
  (hg:dw (ns++[x])=true→(ns++[x]).length≤60→ow s m' L' (K (((ns.length:Int),()),((ba l1,ns++[x],false,()),()))) (K' (((ns.length:Int),()),((ba s,at' s l2,false,ns++[x],()),()))))
  (hd : ∀(i:Int) (b1:Bool) (ns1:List aa),Dm b1 ns1→ns1.length≤60→ow s m' L' (K ((i,()),((ba l1,ns1,b1,()),()))) (K' (((ns.length:Int),()),((ba s,at' s l2,true,ns++[x],()),())))) :
  ow s m' L' ((bg x (ba l1) false ns).bind K) ((cc x (ba s) (at' s l2) false ns).bind K'):=by
 have hx:=Ov hsx
 obtain⟨i,e,hi⟩:=Eo (x:=x) (l:=l1) (b:=false) hn
 rw[e,Jg (by omega) hx]
 simp only[Option.bind_some]
 by_cases hlt:ns.length < 60
 ·have hi:=hi rfl hlt
  subst hi
  have d60:decide (60≤ns.length)=false:=decide_eq_false (by omega)
  simp only[d60,hlt,and_self,if_true,Bool.false_or]
  cases hk:dE x with
  | true =>
   refine hg ?_ ?_
   ·unfold dw at ho ⊢
    rw[List.all_append,ho]
    simp[hk]
   ·rw[List.length_append,List.length_singleton]; omega
  | false =>
   refine hd _ false (ns++[x]) ⟨.inr ?_,Rq (wB ho) hsx⟩ ?_
   ·unfold dw
    rw[List.all_append]
    simp[hk]
   ·rw[List.length_append,List.length_singleton]; omega
 ·have d60:decide (60≤ns.length)=true:=decide_eq_true (by omega)
  rw[d60,if_neg (by omega)]
  simp only[Bool.false_or,Bool.true_or]
  exact hd i true ns (H6 ho) hn
theorem Xy {s:al} (hs:s.length≤200) {n:Nat} (HB:VK s n) : ∀(k c:Nat) (l1 l2 M:al),(bl l1).length=k→bl l1=bl l2→l1 <:+ M→l2 <:+ M→M <:+ s→(bl l1).length≤n → ∀(L left deep:Int) (ns:List aa),1≤L→L+(c:Int)≤5→0≤deep→deep+((bl l1).length:Int)≤200→dw ns=true→ns.length≤60→(f0 (bl l1)=0∨dK (f0 (bl l1)) < L+(c:Int)) →
  ow s M L (fw L deep left (ba l1) false ns) (DB c L ((left,()),((ba s,at' s l2,false,ns,()),()))):=by
 intro k
 induction k using Nat.strongRecOn with
 | ind k ih =>
  intro c
  induction c with
  | zero =>
   intro l1 l2 M hk hb hs1 hs2 hMs hln L left deep ns hL0 hL1 hd0 hd ho hn hpost
   have hl1:=aN (ak hs1 hMs)
   have hbl:=aN (aF l1)
   obtain⟨o1,o2⟩:=tF (bl l1)
   rw[kK]
   simp only[Bool.not_false,if_true]
   rw[Gd (by omega),Jk o1 o2 (by omega) (fun h=>by rw[dM]; exact BD h),if_pos (by omega)]
   refine .inl ⟨left,bl l1,l2,ns,rfl,rfl,by rw[dM,hb],ak (aF l1) hs1,hs2,ho,hn,?_⟩
   rw[dM]
   omega
  | succ c ihc =>
   intro l1 l2 M hk hb hs1 hs2 hMs hln L left deep ns hL0 hL1 hd0 hd ho hn hpost
   have hl1:=aN (ak hs1 hMs)
   have hbl:=aN (aF l1)
   have hs2s:=ak hs2 hMs
   obtain⟨o1,o2⟩:=tF (bl l1)
   obtain⟨l',hl',eop⟩:=ZU (s:=s) (l:=l2) (ns:=ns) (L:=L+(c:Int)) (by omega) (by omega) hs2s
   have hCh:DB (c+1) L ((left,()),((ba s,at' s l2,false,ns,()),()))=(dp (L+(c:Int)) left (ba s) (at' s l2) false ns).bind (DB c L):=rfl
   rw[hCh,xw]
   simp only[Bool.not_false,if_true]
   rw[eop,←hb]
   by_cases hop:f0 (bl l1)≠0∧dK (f0 (bl l1))=L+(c:Int)
   ·rw[if_pos hop]
    have h0 : ¬(f0 (bl l1) == 0)=true:=by simpa using hop.1
    unfold BH
    simp only[Option.bind_some]
    rw[if_neg h0,←hb,wr (by omega) (by omega)]
    have hlt:=Ou hop.1
    have hX:(bl l1).drop (eJ (f0 (bl l1))).length <:+ M:=ak (fZ _ _) (ak (aF l1) hs1)
    have hXM:=aN hX
    have hXl:((bl l1).drop (eJ (f0 (bl l1))).length).length < (bl l1).length:=by
     have:=Ou (l:=bl l1) (by rw[dM]; exact hop.1)
     rw[dM] at this
     exact this
    have hbX:=aN (aF ((bl l1).drop (eJ (f0 (bl l1))).length))
    rw[kK]
    simp only[Bool.not_false,if_true]
    rw[Gd (by omega),Jk o1 o2 (by omega) (fun h=>by rw[dM]; exact BD h),if_neg (by omega),dM,hop.2,Option.bind_assoc]
    have hMl:(bl l1).length≤M.length:=aN (ak (aF l1) hs1)
    refine r6 (HB _ _ rfl (ak hX hMs) (ak hX hMs) (by omega) (L+(c:Int)+1) deep ns (by omega) (by omega) hd0 (by omega) ho hn) ?_ ?_
    ·intro i x1 x2 ns' e1 e2 e3 e4 e5 e6
     have hx1:x1 <:+ M:=ak e2 (ak (aF _) hX)
     have hx2:x2 <:+ M:=ak e3 (ak (aF _) hX)
     have hxl:=aN e2
     have hbx:=aN (aF x1)
     have hxM:=aN hx1
     have hMsl:=aN hMs
     simp only
     rw[Option.bind_assoc]
     refine Xx (x:=nB (f0 (bl l1)) left i) rfl e4 e5 ?_ ?_
     ·intro a1 a2
      exact ih _ (by omega) (c+1) x1 x2 M rfl e1 hx1 hx2 hMs (by omega) L _ deep _ hL0 hL1 hd0 (by omega) a1 a2 (by omega)
     ·intro i2 b1 ns1 a1 a2
      simp only
      rw[Jl]
      simp only[Option.bind_some]
      rw[Et]
      refine jN (BI _ x1 rfl (fun l' _ deep least b ns d0 d1 hn=>Er l' deep least b ns d0 d1 hn) L deep i2 b1 ns1 hd0 (by omega) a2) a1 hx1 rfl (ak hx2 hMs) ?_
      rw[List.length_append,List.length_singleton]
      omega
    ·intro i x1 b1 ns1 j x2 ns2 e1 e2 e3 e4 e5
     have hx1:x1 <:+ M:=ak e2 (ak (aF _) hX)
     have hxM:=aN hx1
     have hMsl:=aN hMs
     simp only
     rw[Ow (x:=nB (f0 (bl l1)) left j) (ns:=ns2) (by omega) VL]
     simp only[Option.bind_some]
     rw[Jl]
     simp only[Option.bind_some]
     rw[Et]
     obtain⟨i3,l3,b3,ns3,h3,j1,j2,j3⟩:=(eW (x:=nB (f0 (bl l1)) left i) (l:=x1) (b:=b1) e3).dm e1
     rw[h3]
     simp only[Option.bind_some]
     have hs3:=aN j1
     refine jN (BI _ l3 rfl (fun l' _ deep least b ns d0 d1 hn=>Er l' deep least b ns d0 d1 hn) L deep i3 b3 ns3 hd0 (by omega) j3) j2 (ak j1 hx1) rfl e4 ?_
     rw[List.length_append,List.length_singleton]
     omega
   ·rw[if_neg hop]
    unfold BH
    simp only[Option.bind_some]
    rw[if_pos (by rfl)]
    simp only[Option.bind_some]
    have hb':bl l1=bl l':=by
     rcases hl' with rfl | rfl
     ·exact hb
     ·rw[dM,hb]
    have hs':l' <:+ M:=by
     rcases hl' with rfl | rfl
     ·exact hs2
     ·exact ak (aF l2) hs2
    exact ihc l1 l' M hk hb' hs1 hs' hMs hln L left deep ns hL0 (by omega) hd0 hd ho hn (by omega)
theorem VN {s:al} (hs:s.length≤200) : ∀ n,VK s n
 | 0=>fun l l0 _ _ _ h=>by omega
 | n+1=>by
  have HB:=VN hs n
  intro l l0 hb hs1 hs2 hln L deep ns hL0 hL1 hd0 hd ho hn
  have hms:bl l <:+ s:=ak (aF l) hs1
  have hm:=aN hms
  rw[uc,H7 (5 - L).toNat L (by omega) hL0,Yj]
  refine r6 (VM hs HB _ l l0 rfl hb hs1 hs2 (by omega) deep ns hd0 hd ho hn) ?_ ?_
  ·intro i x1 x2 ns' e1 e2 e3 e4 e5 _
   have hbx:=aN (aF x1)
   have hx:=aN e2
   exact Xy hs HB _ (5 - L).toNat x1 x2 (bl l) rfl e1 e2 e3 hms (by omega) L i deep ns' hL0 (by omega) hd0 (by omega) e4 e5 (.inr (by have:=TH (f0 (bl x1)); omega))
  ·intro i x1 b1 ns1 j x2 ns2 e1 e2 e3 e4 e5
   have hx:=aN e2
   rw[Et]
   exact jN (BI _ x1 rfl (fun l' _ deep least b ns d0 d1 hn=>Er l' deep least b ns d0 d1 hn) L deep i b1 ns1 hd0 (by omega) e3) e1 e2 rfl e4 e5
theorem Oy {ns:List aa} (h:sm ns=true) : ∀ x∈ns,x.2.2.1.2.2.1.size≤9223372036854775807:=by
 unfold sm at h
 rw[List.all_eq_true] at h
 exact fun x hx=>Ov (h x hx)
theorem Oz {ns:List aa} (h:sm ns=true) : ∀ x∈ns,x.2.2.2.2.2.1.length≤10000000:=by
 unfold sm at h
 rw[List.all_eq_true] at h
 intro x hx
 have:=h x hx
 unfold xW at this
 rw[Bool.and_eq_true,decide_eq_true_eq,decide_eq_true_eq] at this
 omega
theorem ZV (s:al):at' s s=0:=by
 unfold at'
 omega
theorem L2 {x:ByteArray} (hx:x.size≤9223372036854775807) : ∃(f:List aa) (b:Bool),j6 x=some ((f,b,()),())∧j9 x=some ((f,b,()),())∧(b=true→fF f=true)∧(b=false→f=[]):=by
 obtain⟨s,rfl⟩ : ∃ s,x=ba s:=⟨lb x,(d9 x).symm⟩
 rw[Ho,Hv,om hx,Br hx]
 simp only[Option.bind_some]
 cases hp:(plain (ba s) && decide (((ba s).size:Int)≤200)) with
 | false=>exact⟨[],false,rfl,rfl,(fun h=>by cases h),fun _=>rfl⟩
 | true =>
  rw[Bool.and_eq_true,decide_eq_true_eq,aQ] at hp
  have hs:s.length≤200:=by omega
  have hbl:=aN (aF s)
  have h:=VN hs (s.length+1) s s rfl (pj s) (pj s) (by omega) 1 0 [] (by decide) (by decide) (by decide) (by omega) rfl (by simp)
  rw[ZV] at h
  simp only[Bool.not_true,Bool.false_eq_true,if_false]
  rcases h with⟨i,l1,l2,ns,e1,e2,h1,h2,h3,h4,h5,h6⟩ | ⟨i,l1,b1,ns1,j,l2,ns2,e1,h1,h2,h3,e2,h4,h5⟩
  ·rw[e1,e2]
   simp only[Option.bind_some]
   rw[Oc (by omega) (ak h3 (aF s)),ri]
   simp only[Option.bind_some,Bool.false_eq_true,if_false]
   have e0:(ByteArray.toList (ba (bl l1)) == ByteArray.toList (⟨#[]⟩:ByteArray))=decide (bl l1=[]):=dF (b:=[])
   rw[e0,←h1,aQ,oI (by omega) (Oy (wB h4)) (Oz (wB h4)),k8 (by omega) (Oy (wB h4)) (Oz (wB h4))]
   simp only[Option.bind_some]
   by_cases hr:bl l1=[]
   ·rw[aA (by rw[hr]; unfold at'; simp),hr]
    simp only[decide_true,Bool.not_true,Bool.false_eq_true,if_false]
    cases hk:fF ns with
    | true=>exact⟨ns,true,rfl,rfl,fun _=>hk,fun h=>by cases h⟩
    | false=>exact⟨[],false,rfl,rfl,(fun h=>by cases h),fun _=>rfl⟩
   ·have hlen:=List.length_pos_iff.2 hr
    have hls:=aN (ak (ak (aF l1) h2) (aF s))
    rw[aB (by unfold at'; omega)]
    simp only[hr,decide_false,Bool.not_false,if_true]
    exact⟨[],false,rfl,rfl,(fun h=>by cases h),fun _=>rfl⟩
  ·rw[e1,e2]
   simp only[Option.bind_some]
   rw[Oc (by omega) h4,ri]
   simp only[Option.bind_some,if_true]
   refine⟨[],false,rfl,?_,(fun h=>by cases h),fun _=>rfl⟩
   cases b1 with
   | true=>rfl
   | false =>
    have hbad:dw ns1=false:=h1.1.elim (fun h=>by cases h) id
    simp only[Bool.false_eq_true,if_false]
    split
    ·rfl
    ·rw[oI (by omega) (Oy h1.2) (Oz h1.2)]
     simp only[Option.bind_some]
     cases hk:fF ns1 with
     | false=>rfl
     | true =>
      exfalso
      have:dw ns1=true:=by
       unfold dw
       rw[List.all_eq_true]
       intro y hy
       obtain⟨i,hi⟩:=List.getElem?_of_mem hy
       exact(np hk i y hi).1
      rw[this] at hbad
      cases hbad
def qT:al→al
 | []=>[]
 | c :: l=>if c=34 then 34 :: 34 :: qT l else c :: qT l
theorem VO : ∀ l:al,(qT l).length≤2*l.length
 | []=>by simp[qT]
 | c :: l=>by
  have:=VO l
  unfold qT
  split <;> simp only[List.length_cons] <;> omega
theorem OA (l:al) : ∀ pre:al,(34:UInt8) ∉ pre→qT (pre++l)=pre++qT l
 | [],_=>rfl
 | c :: pre,h=>by
  simp only[List.mem_cons,not_or] at h
  rw[List.cons_append,qT,if_neg (fun e=>h.1 e.symm),OA l pre h.2]
  rfl
theorem TJ : ∀(n:Nat) (l:al),l.length=n→Lib.replaceK [34] [34,34] (l.count 34) l=qT l:=by
 intro n
 induction n using Nat.strongRecOn with
 | ind n ih =>
  intro l hn
  by_cases hm:(34:UInt8)∈l
  ·obtain⟨pre,t,rfl,h2⟩:=Gf 34 l hm
   have hc:(pre++34 :: t).count 34=t.count 34+1:=by
    rw[List.count_append,List.count_eq_zero.2 h2,List.count_cons_self]
    omega
   have hi:Lib.index (pre++34 :: t) [34]=(pre.length:Nat):=by rw[Lib.index_one,Jh 34 t pre h2]
   rw[hc,Lib.replaceK_hit _ _ _ _ _ hi,List.take_left' rfl,OA _ pre h2]
   have hd:(pre++34 :: t).drop (pre.length+([34]:al).length)=t:=by
    have:pre++34 :: t=(pre++[34])++t:=by simp
    rw[this,List.drop_left' (by simp)]
   rw[hd,ih t.length (by rw[←hn]; simp; omega) t rfl]
   simp[qT]
  ·rw[List.count_eq_zero.2 hm]
   have:=OA [] l hm
   rw[List.append_nil] at this
   rw[this]
   simp[qT,Lib.replaceK]
theorem Qf {l:al} (hl:l.length≤1000000):strings_ReplaceAll (ba l) (⟨#[34]⟩:ByteArray) (⟨#[34,34]⟩:ByteArray)=some ((ba (qT l),()),()):=by
 rw[zR]
 have hcount:Lib.countB (ba l) (ba [34])=l.count 34:=by
  show Lib.count (lb (ba l)) (lb (ba [34]))=_
  rw[dv,dv,Lib.count_one]
 have hle:l.count 34≤l.length:=List.count_le_length
 show(if(ba l).size < 4294967281∧1≤(ba [34]).size∧(ba l).size+Lib.countB (ba l) (ba [34])*(ba [34,34]).size≤140737488355328 then some (((⟨(Lib.replaceAll (lb (ba l)) (lb (ba [34])) (lb (ba [34,34]))).toArray⟩:ByteArray),()),()) else none)=_
 rw[if_pos ⟨by rw[aQ]; omega,by decide,by rw[hcount,aQ,aQ]; simp only[List.length_cons,List.length_nil]; omega⟩,dv,dv,dv]
 congr 3
 show ba (Lib.replaceAll l [34] [34,34])=_
 unfold Lib.replaceAll Lib.replace Lib.replaceNum
 rw[if_neg (by decide),if_pos (.inl (by decide)),Lib.count_one,TJ _ l rfl]
theorem yI {s:al} (hs:s.length≤1000000) : ∀(l acc:al),l <:+ s→acc.length+2*l.length≤4000000→n7 (ba s) (ba acc) (at' s l)=some ((ba (acc++qT l++[34]),()),())
 | [],acc,h,ha=>by
  rw[zY,aA (by rw[aQ]; unfold at'; simp),show(⟨#[34]⟩:ByteArray)=ba [34] from rfl,bF (by simp only[List.length_singleton]; simp at ha; omega)]
  simp[qT]
 | c :: l,acc,h,ha=>by
  obtain⟨pre,h1,h2⟩:=pi h
  have hl:pre.length+l.length+1=s.length:=by rw[h1]; simp; omega
  rw[List.length_cons] at ha
  have h':l <:+ s:=ak ⟨[c],rfl⟩ h
  have e1:(pre.length:Int)+1=at' s l:=by
   unfold at'
   omega
  have e3:(s.take (pre.length+1)).drop pre.length=[c]:=by
   rw[h1,List.take_append,List.drop_append]
   simp
  rw[zY,h2,aB (by rw[aQ]; omega),la h1,F7 c 34 (n:=34) rfl,wr (by omega) (by omega),show(pre.length:Int)+1=((pre.length+1:Nat):Int) by omega,Ap (by omega) (by omega),e3]
  by_cases hc:c=34
  ·subst hc
   rw[aB rfl,show(⟨#[34]⟩:ByteArray)=ba [34] from rfl,bF (by simp only[List.length_singleton]; omega),Ap (by omega) (by omega),e3,bF (by simp only[List.length_append,List.length_singleton]; omega),show((pre.length+1:Nat):Int)=at' s l by omega,yI hs l _ h' (by simp only[List.length_append,List.length_singleton]; omega)]
   simp[qT]
  ·rw[aA hc,bF (by simp only[List.length_singleton]; omega),show((pre.length+1:Nat):Int)=at' s l by omega,yI hs l _ h' (by simp only[List.length_append,List.length_singleton]; omega)]
   simp[qT,hc]
theorem VP {l:al} (hl:l.length≤1000000):FK (ba l)=some ((ba (34 :: (qT l++[34])),()),()):=by
 rw[PL,show(⟨#[34]⟩:ByteArray)=ba [34] from rfl]
 have:=yI hl l [34] (pj l) (by simp only[List.length_singleton]; omega)
 rw[ZV] at this
 rw[this]
 simp
def du:List al→al
 | []=>[]
 | [x]=>x
 | x :: y :: l=>x++44 :: du (y :: l)
def df (f:List aa):Nat→Int→Int→al
 | 0,_,_=>[]
 | n+1,k,L =>
  let x:=fQ f k
  if x.1=1 then(if x.2.2.1.1=2 then 34 :: (qT (lb x.2.2.1.2.2.1)++[34]) else lb (bG x.2.2.1))
  else if x.1=2 then nD x.2.2.2.1
  else if x.1=3 then nD x.2.2.2.1++58 :: nD x.2.2.2.2.1
  else if x.1=4 then 45 :: df f n (x.2.2.2.2.2.1.getD 0 0) 5
  else if x.1=5 then
   let b:=df f n (x.2.2.2.2.2.1.getD 0 0) (dK x.2.1)++(eJ x.2.1++df f n (x.2.2.2.2.2.1.getD 1 0) (dK x.2.1+1))
   if dK x.2.1 < L then 40 :: (b++[41]) else b
  else gx x.2.1++40 :: (du (x.2.2.2.2.2.1.map fun k=>df f n k 1)++[41])
theorem Fc : ∀ l:List al,du l=Lib.join l [44]
 | []=>rfl
 | [x]=>by rw[Lib.join_one]; rfl
 | x :: y :: l=>by
  rw[du,Fc (y :: l),Lib.join_cons,Lib.join_cons]
  simp[Lib.joinTail]
theorem Fd (x:al) : ∀(l:List al),l≠[]→du (l++[x])=du l++44 :: x
 | [y],_=>rfl
 | y :: z :: l,_=>by
  show y++44 :: du (z :: l++[x])=(y++44 :: du (z :: l))++44 :: x
  rw[Fd x (z :: l) (by simp)]
  simp
theorem H8 : ∀ l:List al,(du l).length≤(l.map List.length).sum+l.length
 | []=>by simp[du]
 | [x]=>by simp[du]
 | x :: y :: l=>by
  have:=H8 (y :: l)
  simp only[du,List.length_append,List.length_cons,List.map_cons,List.sum_cons] at this ⊢
  omega
theorem Xz {xs:List al} (h1:xs.length≤1000) (h2:(du xs).length≤10000000):strings_Join (xs.map fun x=>ba x) (⟨#[44]⟩:ByteArray)=some ((ba (du xs),()),()):=by
 rw[Hx]
 have e:(xs.map fun x=>ba x).map (·.data.toList)=xs:=by
  rw[List.map_map]
  conv=>rhs; rw[←List.map_id xs]
  apply List.map_congr_left
  intro x _
  exact dv x
 show(if(xs.map fun x=>ba x).length≤140737488355328∧(Lib.join ((xs.map fun x=>ba x).map (·.data.toList)) (lb (ba [44]))).length≤140737488355328 then some (((⟨(Lib.join ((xs.map fun x=>ba x).map (·.data.toList)) (lb (ba [44]))).toArray⟩:ByteArray),()),()) else none)=_
 rw[e,dv,←Fc,if_pos ⟨by rw[List.length_map]; omega,by omega⟩]
theorem Jm {p:cb} (h:bS p.1=true):(nD p).length≤6:=by
 obtain⟨c,r,fc,fr,rfl,h1,h2,h3,h4⟩:=Dy h
 have k1:=wy c
 have k2:=uY h4
 show(Aw c r fc fr).length≤6
 unfold Aw rY
 simp only[List.length_append]
 cases fc <;> cases fr <;> simp <;> omega
theorem Rr (k:Int):(gx k).length≤5:=by
 unfold gx
 by_cases hi:k.toNat < 11
 ·have h : ∀ j:Fin 11,(([[],[83,85,77],[77,73,78],[77,65,88],[67,79,85,78,84],[73,70],[65,78,68],[79,82],[78,79,84],[65,66,83],[76,69,78]]:List al).getD j.val []).length≤5:=by decide
  exact h ⟨k.toNat,hi⟩
 ·rw[List.getD_eq_getElem?_getD,List.getElem?_eq_none (by simp; omega)]
  simp
theorem OB {c:Int→Option (Int×Nat)} {f:List aa} {call:Bool} : ∀(l:List Int) (cur:Int) (h:Nat) (s:Int) (h':Nat),gf c f call l cur h=some (s,h') →
  (∀ kid∈l,∃ p,c kid=some p) ∧ ∀ g:Int→Nat,(∀ kid s' h'',c kid=some (s',h'')→(g kid:Int)≤1000*(kid - s'+1))→(((l.map g).sum:Nat):Int)≤1000*(cur - s)
 | [],cur,h,s,h',e=>by
  simp only[gf,Option.some.injEq,Prod.mk.injEq] at e
  obtain⟨rfl,_⟩:=e
  exact⟨fun _ h=>by simp at h,fun g _=>by simp⟩
 | kid :: l,cur,h,s,h',e=>by
  simp only[gf] at e
  split at e
  ·rename_i hk
   rw[Option.bind_eq_some_iff] at e
   obtain⟨p,hp,e⟩:=e
   obtain⟨k1,k2⟩:=OB l p.1 _ s h' e
   refine⟨fun kid' hm => ?_,fun g hg => ?_⟩
   ·rcases List.mem_cons.1 hm with rfl | hm
    ·exact⟨p,hp⟩
    ·exact k1 kid' hm
   ·have h1:=k2 g hg
    have h2:=hg kid p.1 p.2 hp
    have:=hk.1
    simp only[List.map_cons,List.sum_cons]
    omega
  ·cases e
section
variable {f:List aa}
theorem H9 (n:Nat) (k:Int):df f n k 0=df f n k 1:=by
 cases n with
 | zero=>rfl
 | succ n =>
  have hlv : ∀ j,¬dK j < 0 ∧ ¬dK j < 1:=by
   intro j
   unfold dK
   constructor <;> (repeat' split) <;> omega
  unfold df
  simp only[(hlv _).1,(hlv _).2,if_false]
def TK (f:List aa) (n:Nat) (k:Int):Prop := ∀ L:Int,gn f k L=some ((ba (df f n k L),()),())∧m7 f k L=some ((ba (df f n k L),()),())
theorem Ia {n:Nat} {kids:List Int} {a op:Int} {v:ab} {A B:cb} {kids':List Int} (hop:0≤op∧op≤10) (hl:kids.length≤10) (hk : ∀ k∈kids,TK f n k) (hlen:(du (kids.map fun k=>df f n k 1)).length≤1000000) : ∀(ys pre:List Int),kids=pre++ys →
  kJ f kids (kids.length:Int) (pre.length:Int) a op v A B kids' ((pre.map fun k=>df f n k 1).map fun x=>ba x)=some ((ba (gx op++40 :: (du (kids.map fun k=>df f n k 1)++[41])),()),())
 | [],pre,h=>by
  rw[List.append_nil] at h
  subst h
  have hf:=Rr op
  rw[rr,aA (Int.lt_irrefl _),H4 hop.1 hop.2]
  simp only[Option.bind_some]
  rw[show(⟨#[40]⟩:ByteArray)=ba [40] from rfl,bF (by simp only[List.length_singleton]; omega),Xz (by rw[List.length_map]; omega) (by omega)]
  simp only[Option.bind_some]
  rw[bF (by simp only[List.length_append,List.length_singleton]; omega),show(⟨#[41]⟩:ByteArray)=ba [41] from rfl,bF (by simp only[List.length_append,List.length_singleton]; omega)]
  simp
 | y :: ys,pre,h=>by
  rw[rr,aB (bu h),br h,(hk y (by rw[h]; simp) 1).1]
  simp only[Option.bind_some]
  have hpl:pre.length≤10:=by
   have:=congrArg List.length h
   simp at this
   omega
  rw[bd (by simp only[List.length_map,List.length_singleton]; omega),aJ h (by omega)]
  have:=Ia (a:=a) (v:=v) (A:=A) (B:=B) (kids':=kids') hop hl hk hlen ys (pre++[y]) (az h)
  rw[List.map_append,List.map_append] at this
  exact this
theorem Ib {n:Nat} {kids:List Int} {a op:Int} {v:ab} {A B:cb} (hl:kids.length≤10) (hk : ∀ k∈kids,TK f n k) (hlen : ∀ pre ys:List Int,kids=pre++ys→(du (pre.map fun k=>df f n k 1)).length≤1000000) (hop:(gx op).length≤5) : ∀(ys pre:List Int),kids=pre++ys →
  n8 f (ba (gx op++40 :: du (pre.map fun k=>df f n k 1))) (pre.length:Int) a op v A B kids=some ((ba (gx op++40 :: (du (kids.map fun k=>df f n k 1)++[41])),()),())
 | [],pre,h=>by
  have h0:=hlen pre [] h
  rw[List.append_nil] at h
  subst h
  rw[zZ,aA (Int.lt_irrefl _),show(⟨#[41]⟩:ByteArray)=ba [41] from rfl,bF (by simp only[List.length_append,List.length_cons,List.length_nil]; omega)]
  simp
 | y :: ys,pre,h=>by
  have h0:=hlen pre (y :: ys) h
  have h1:=hlen (pre++[y]) ys (az h)
  have hpl:pre.length≤10:=by
   have:=congrArg List.length h
   simp at this
   omega
  have ih:=Ib (a:=a) (v:=v) (A:=A) (B:=B) hl hk hlen hop ys (pre++[y]) (az h)
  rw[List.map_append,List.map_singleton] at ih h1
  rw[zZ,aB (bu h)]
  by_cases hp:pre=[]
  ·subst hp
   simp only[List.nil_append,List.map_nil,du] at ih h1 ⊢
   rw[aA (by simp),br (pre:=[]) h,(hk y (by rw[h]; simp) 0).2,H9]
   simp only[Option.bind_some]
   rw[bF (by simp only[List.length_append,List.length_cons,List.length_nil]; omega),aJ (pre:=[]) h (by omega)]
   have e:gx op++[40]++df f n y 1=gx op++40 :: df f n y 1:=by simp
   rw[e]
   exact ih
  ·have hpos:=List.length_pos_iff.2 hp
   rw[Fd _ _ (by simpa using hp)] at ih h1
   simp only[List.length_append,List.length_cons] at h1
   rw[aB (by omega),show(⟨#[44]⟩:ByteArray)=ba [44] from rfl,bF (by simp only[List.length_append,List.length_cons,List.length_nil]; omega),br h,(hk y (by rw[h]; simp) 0).2,H9]
   simp only[Option.bind_some]
   rw[bF (by simp only[List.length_append,List.length_cons,List.length_nil]; omega),aJ h (by omega)]
   have e:gx op++40 :: du (pre.map fun k=>df f n k 1)++[44]++df f n y 1=gx op++40 :: (du (pre.map fun k=>df f n k 1)++44 :: df f n y 1):=by simp
   rw[e]
   exact ih
end
section
variable {f:List aa}
theorem ZW {l:List Int} (h:l.length=2) : ∃ a b,l=[a,b]:=by
 match l,h with
 | [a,b],_=>exact⟨a,b,rfl⟩
theorem Jn (hf:f.length≤60) : ∀(n:Nat) (k s:Int) (h:Nat),fD f n k=some (s,h)→TK f n k ∧ ∀ L:Int,((df f n k L).length:Int)≤1000*(k - s+1)
 | 0,k,s,h,e=>by simp[fD] at e
 | n+1,k,s,h,e=>by
  have hall:=jj f (n+1) k s h e
  obtain⟨hs0,hsk,_⟩:=hall
  have IH:=Jn hf n
  simp only[fD] at e
  split at e
  ·rename_i h0
   split at e
   ·cases e
   ·rename_i x hx
    split at e
    ·rename_i hok
     obtain⟨q1,q2⟩:=OB _ _ _ _ _ e
     have hkl:k < 60:=by
      have:=(List.getElem?_eq_some_iff.1 hx).1
      omega
     have hK : ∀ kid∈x.2.2.2.2.2.1,TK f n kid ∧ ∃ s' h',fD f n kid=some (s',h'):=by
      intro kid hm
      obtain⟨p,hp⟩:=q1 kid (List.mem_reverse.2 hm)
      exact⟨(IH kid p.1 p.2 hp).1,p.1,p.2,hp⟩
     have hnode:fQ f k=x:=by
      unfold fQ
      rw[List.getD_eq_getElem?_getD,hx]
      rfl
     have hfx : ∀ L,df f (n+1) k L=(if x.1=1 then(if x.2.2.1.1=2 then 34 :: (qT (lb x.2.2.1.2.2.1)++[34]) else lb (bG x.2.2.1))
      else if x.1=2 then nD x.2.2.2.1
      else if x.1=3 then nD x.2.2.2.1++58 :: nD x.2.2.2.2.1
      else if x.1=4 then 45 :: df f n (x.2.2.2.2.2.1.getD 0 0) 5
      else if x.1=5 then(if dK x.2.1 < L then 40 :: ((df f n (x.2.2.2.2.2.1.getD 0 0) (dK x.2.1)++(eJ x.2.1++df f n (x.2.2.2.2.2.1.getD 1 0) (dK x.2.1+1)))++[41]) else(df f n (x.2.2.2.2.2.1.getD 0 0) (dK x.2.1)++(eJ x.2.1++df f n (x.2.2.2.2.2.1.getD 1 0) (dK x.2.1+1))))
      else gx x.2.1++40 :: (du (x.2.2.2.2.2.1.map fun k=>df f n k 1)++[41])):=by
      intro L
      conv=>lhs; unfold df
      rw[hnode]
     have hI : ∀ L,gn f k L=_:=fun L=>(Hw (x0:=f) (x1:=k) (x2:=L)).trans (bV h0 hx)
     have hS : ∀ L,m7 f k L=_:=fun L=>(SD (x0:=f) (x1:=k) (x2:=L)).trans (bV h0 hx)
     unfold dE kl at hok
     by_cases c1:x.1=1
     ·rw[if_pos c1] at hok
      simp only[Bool.and_eq_true,decide_eq_true_eq] at hok
      have hv:=hok.1.1.2
      have hsz:=dD hv
      have b1:(x.1 == 1)=true:=by rw[c1]; rfl
      by_cases c2:x.2.2.1.1=2
      ·have b2:(x.2.2.1.1 == 2)=true:=by rw[c2]; rfl
       have hlb:(lb x.2.2.1.2.2.1).length≤200:=by rw[jk]; exact hsz
       have hq:=VO (lb x.2.2.1.2.2.1)
       have ea : ∀ L,df f (n+1) k L=34 :: (qT (lb x.2.2.1.2.2.1)++[34]):=fun L=>by rw[hfx,if_pos c1,if_pos c2]
       refine⟨fun L=>⟨?_,?_⟩,fun L => ?_⟩
       ·rw[hI,if_pos b1,if_pos b2,←d9 x.2.2.1.2.2.1,Qf (by omega)]
        simp only[Option.bind_some]
        rw[show(⟨#[34]⟩:ByteArray)=ba [34] from rfl,bF (by simp only[List.length_singleton]; omega),bF (by simp only[List.length_append,List.length_singleton]; omega),ea]
        simp
       ·rw[hS,if_pos b1,if_pos b2,←d9 x.2.2.1.2.2.1,VP (by omega)]
        simp only[Option.bind_some]
        rw[ea]
       ·rw[ea]
        simp only[List.length_cons,List.length_append,List.length_nil]
        omega
      ·have b2 : ¬(x.2.2.1.1 == 2)=true:=by simpa using c2
       have hvs:=KJ hv
       have ea : ∀ L,df f (n+1) k L=lb (bG x.2.2.1):=fun L=>by rw[hfx,if_pos c1,if_neg c2]
       refine⟨fun L=>⟨?_,?_⟩,fun L => ?_⟩
       ·rw[hI,if_pos b1,if_neg b2,tS hv,ea,d9]
        rfl
       ·rw[hS,if_pos b1,if_neg b2,eI (co hv),if_pos hv,ea,d9]
        rfl
       ·rw[ea,jk]
        omega
     rw[if_neg c1] at hok
     have b1 : ¬(x.1 == 1)=true:=by simpa using c1
     by_cases c2:x.1=2
     ·rw[if_pos c2] at hok
      simp only[Bool.and_eq_true,decide_eq_true_eq] at hok
      have b2:(x.1 == 2)=true:=by rw[c2]; rfl
      have hr:=hok.2
      have hp:=Jm hr
      have ea : ∀ L,df f (n+1) k L=nD x.2.2.2.1:=fun L=>by rw[hfx,if_neg c1,if_pos c2]
      refine⟨fun L=>⟨?_,?_⟩,fun L => ?_⟩
      ·rw[hI,if_neg b1,if_pos b2,oK,if_pos hr,ea]
       rfl
      ·rw[hS,if_neg b1,if_pos b2,tU,if_pos hr,ea]
       rfl
      ·rw[ea]
       omega
     rw[if_neg c2] at hok
     have b2 : ¬(x.1 == 2)=true:=by simpa using c2
     by_cases c3:x.1=3
     ·rw[if_pos c3] at hok
      simp only[Bool.and_eq_true,decide_eq_true_eq] at hok
      have b3:(x.1 == 3)=true:=by rw[c3]; rfl
      have ha:=hok.2
      unfold q9 at ha
      simp only[Bool.and_eq_true,decide_eq_true_eq] at ha
      have hr1:=ha.1.1.1
      have hr2:=ha.1.1.2
      have hp1:=Jm hr1
      have hp2:=Jm hr2
      have ea : ∀ L,df f (n+1) k L=nD x.2.2.2.1++58 :: nD x.2.2.2.2.1:=fun L=>by rw[hfx,if_neg c1,if_neg c2,if_pos c3]
      refine⟨fun L=>⟨?_,?_⟩,fun L => ?_⟩
      ·rw[hI,if_neg b1,if_neg b2,if_pos b3,oK,if_pos hr1]
       simp only[Option.bind_some]
       rw[show(⟨#[58]⟩:ByteArray)=ba [58] from rfl,bF (by simp only[List.length_singleton]; omega),oK,if_pos hr2]
       simp only[Option.bind_some]
       rw[bF (by simp only[List.length_append,List.length_singleton]; omega),ea]
       simp
      ·rw[hS,if_neg b1,if_neg b2,if_pos b3,tU,if_pos hr1]
       simp only[Option.bind_some]
       rw[show(⟨#[58]⟩:ByteArray)=ba [58] from rfl,bF (by simp only[List.length_singleton]; omega),tU,if_pos hr2]
       simp only[Option.bind_some]
       rw[bF (by simp only[List.length_append,List.length_singleton]; omega),ea]
       simp
      ·rw[ea]
       simp only[List.length_append,List.length_cons]
       omega
     rw[if_neg c3] at hok
     have b3 : ¬(x.1 == 3)=true:=by simpa using c3
     by_cases c4:x.1=4
     ·rw[if_pos c4] at hok
      simp only[Bool.and_eq_true,decide_eq_true_eq] at hok
      have b4:(x.1 == 4)=true:=by rw[c4]; rfl
      obtain⟨a,hkids⟩ : ∃ a,x.2.2.2.2.2.1=[a]:=List.length_eq_one_iff.1 (by omega)
      obtain⟨hka,sa,ha,hca⟩:=hK a (by rw[hkids]; simp)
      rw[hkids] at e q2 hI hS hfx
      have hla:=fun L=>(IH a sa ha hca).2 L
      simp only[List.reverse_singleton,gf] at e
      split at e
      ·rename_i hc
       rw[hca] at e
       simp only[Option.bind_some,Option.some.injEq,Prod.mk.injEq] at e
       obtain⟨rfl,_⟩:=e
       have ea : ∀ L,df f (n+1) k L=45 :: df f n a 5:=fun L=>by rw[hfx,if_neg c1,if_neg c2,if_neg c3,if_pos c4]; rfl
       have h5:=hla 5
       refine⟨fun L=>⟨?_,?_⟩,fun L => ?_⟩
       ·rw[hI,if_neg b1,if_neg b2,if_neg b3,if_pos b4,bV (y:=a) (by decide) rfl,(hka 5).1]
        simp only[Option.bind_some]
        rw[show(⟨#[45]⟩:ByteArray)=ba [45] from rfl,bF (by simp only[List.length_singleton]; omega),ea]
        rfl
       ·rw[hS,if_neg b1,if_neg b2,if_neg b3,if_pos b4,bV (y:=a) (by decide) rfl,(hka 5).2]
        simp only[Option.bind_some]
        rw[show(⟨#[45]⟩:ByteArray)=ba [45] from rfl,bF (by simp only[List.length_singleton]; omega),ea]
        rfl
       ·rw[ea]
        simp only[List.length_cons]
        omega
      ·cases e
     rw[if_neg c4] at hok
     have b4 : ¬(x.1 == 4)=true:=by simpa using c4
     by_cases c5:x.1=5
     ·rw[if_pos c5] at hok
      simp only[Bool.and_eq_true,decide_eq_true_eq] at hok
      have b5:(x.1 == 5)=true:=by rw[c5]; rfl
      obtain⟨o1,o2⟩:=bw.1 hok.1.1.1.1
      obtain⟨a,b,hkids⟩ : ∃ a b,x.2.2.2.2.2.1=[a,b]:=ZW (by omega)
      obtain⟨hka,sa,ha,hca⟩:=hK a (by rw[hkids]; simp)
      obtain⟨hkb,sb,hb,hcb⟩:=hK b (by rw[hkids]; simp)
      rw[hkids] at e q2 hI hS hfx
      have hla:=fun L=>(IH a sa ha hca).2 L
      have hlb:=fun L=>(IH b sb hb hcb).2 L
      have hsa:=jj f n a sa ha hca
      have hsb:=jj f n b sb hb hcb
      simp only[List.reverse_cons,List.reverse_nil,List.nil_append,List.cons_append,gf] at e
      split at e
      ·rename_i hc
       rw[hcb] at e
       simp only[Option.bind_some] at e
       split at e
       ·rename_i hc2
        rw[hca] at e
        simp only[Option.bind_some,Option.some.injEq,Prod.mk.injEq] at e
        obtain⟨rfl,_⟩:=e
        have hlv:1≤dK x.2.1∧dK x.2.1≤4:=by
         unfold dK
         constructor <;> (repeat' split) <;> omega
        have ho:=Jf x.2.1
        have h1:=hla (dK x.2.1)
        have h2:=hlb (dK x.2.1+1)
        have i1:=hsa.2.1
        have i2:=hsb.2.1
        have ea : ∀ L,df f (n+1) k L=if dK x.2.1 < L then 40 :: ((df f n a (dK x.2.1)++(eJ x.2.1++df f n b (dK x.2.1+1)))++[41]) else(df f n a (dK x.2.1)++(eJ x.2.1++df f n b (dK x.2.1+1))):=fun L=>by rw[hfx,if_neg c1,if_neg c2,if_neg c3,if_neg c4,if_pos c5]; rfl
        refine⟨fun L=>⟨?_,?_⟩,fun L => ?_⟩
        ·rw[hI,if_neg b1,if_neg b2,if_neg b3,if_neg b4,if_pos b5,KW o1 o2]
         simp only[Option.bind_some]
         rw[bV (y:=a) (by decide) rfl,(hka _).1]
         simp only[Option.bind_some]
         rw[BE (by omega) o2]
         simp only[Option.bind_some]
         rw[bF (by omega),bV (y:=b) (by decide) rfl,wr (by omega) (by omega),(hkb _).1]
         simp only[Option.bind_some]
         rw[bF (by simp only[List.length_append]; omega),ea]
         by_cases hL:dK x.2.1 < L
         ·rw[aB hL,if_pos hL,show(⟨#[40]⟩:ByteArray)=ba [40] from rfl,bF (by simp only[List.length_append,List.length_singleton]; omega),show(⟨#[41]⟩:ByteArray)=ba [41] from rfl,bF (by simp only[List.length_append,List.length_singleton]; omega)]
          simp
         ·rw[aA hL,if_neg hL]
          simp
        ·rw[hS,if_neg b1,if_neg b2,if_neg b3,if_neg b4,if_pos b5,yH]
         simp only[Option.bind_some]
         rw[bV (y:=a) (by decide) rfl,(hka _).2]
         simp only[Option.bind_some]
         rw[BF (by omega) o2]
         simp only[Option.bind_some]
         rw[bF (by omega),bV (y:=b) (by decide) rfl,wr (by omega) (by omega),(hkb _).2]
         simp only[Option.bind_some]
         rw[bF (by simp only[List.length_append]; omega),ea]
         by_cases hL:dK x.2.1 < L
         ·rw[aB hL,if_pos hL,show(⟨#[40]⟩:ByteArray)=ba [40] from rfl,bF (by simp only[List.length_append,List.length_singleton]; omega),show(⟨#[41]⟩:ByteArray)=ba [41] from rfl,bF (by simp only[List.length_append,List.length_singleton]; omega)]
          simp
         ·rw[aA hL,if_neg hL]
          simp
        ·rw[ea]
         split <;> simp only[List.length_append,List.length_cons,List.length_nil] <;> omega
       ·cases e
      ·cases e
     rw[if_neg c5] at hok
     have b5 : ¬(x.1 == 5)=true:=by simpa using c5
     by_cases c6:x.1=6
     ·rw[if_pos c6] at hok
      simp only[Bool.and_eq_true,decide_eq_true_eq] at hok
      have hargs:=hok.1.1.1
      have hkn:1≤x.2.2.2.2.2.1.length∧x.2.2.2.2.2.1.length≤10∧0≤x.2.1∧x.2.1≤10:=by
       unfold oq at hargs
       split at hargs
       ·simp only[Bool.or_eq_true,decide_eq_true_eq] at hargs
        omega
       ·split at hargs
        ·rename_i hi
         have:=bw.1 hi
         have:=bw.1 hargs
         omega
        ·split at hargs
         ·rename_i hi
          have:=bw.1 hi
          simp only[decide_eq_true_eq] at hargs
          omega
         ·cases hargs
      have hg:=q2 (fun kid=>(df f n kid 1).length) (fun kid s' h'' hc=>(IH kid s' h'' hc).2 1)
      rw[List.map_reverse,List.sum_reverse] at hg
      have hfn:=Rr x.2.1
      have hcl : ∀ l:List Int,(du (l.map fun k=>df f n k 1)).length≤(l.map fun k=>(df f n k 1).length).sum+l.length:=by
       intro l
       have:=H8 (l.map fun k=>df f n k 1)
       rw[List.map_map,List.length_map] at this
       exact this
      have hc0:=hcl x.2.2.2.2.2.1
      have ea : ∀ L,df f (n+1) k L=gx x.2.1++40 :: (du (x.2.2.2.2.2.1.map fun k=>df f n k 1)++[41]):=fun L=>by rw[hfx,if_neg c1,if_neg c2,if_neg c3,if_neg c4,if_neg c5]
      refine⟨fun L=>⟨?_,?_⟩,fun L => ?_⟩
      ·rw[hI,if_neg b1,if_neg b2,if_neg b3,if_neg b4,if_neg b5,ea]
       exact Ia ⟨hkn.2.2.1,hkn.2.2.2⟩ hkn.2.1 (fun k hk=>(hK k hk).1) (by omega) _ [] rfl
      ·rw[hS,if_neg b1,if_neg b2,if_neg b3,if_neg b4,if_neg b5,Oj hkn.2.2.1 hkn.2.2.2]
       simp only[Option.bind_some]
       rw[show(⟨#[40]⟩:ByteArray)=ba [40] from rfl,bF (by simp only[List.length_singleton]; omega),ea]
       refine Ib hkn.2.1 (fun k hk=>(hK k hk).1) (fun pre ys hpy => ?_) hfn _ [] rfl
       have h1:=hcl pre
       have h2:(pre.map fun k=>(df f n k 1).length).sum≤(x.2.2.2.2.2.1.map fun k=>(df f n k 1).length).sum:=by
        rw[hpy,List.map_append,List.sum_append]
        omega
       have h3:=congrArg List.length hpy
       rw[List.length_append] at h3
       omega
      ·rw[ea]
       simp only[List.length_append,List.length_cons,List.length_nil]
       omega
     ·rw[if_neg c6] at hok
      cases hok
    ·cases e
  ·cases e
theorem Jo (hl:f.length≤10000000) (hs : ∀ x∈f,x.2.2.1.2.2.1.size≤9223372036854775807) (hk : ∀ x∈f,x.2.2.2.2.2.1.length≤10000000) : ∃ t:al,qD f=some ((ba t,()),())∧qx f=some ((ba t,()),())∧t.length≤200:=by
 rw[xv,xt,oI hl hs hk,k8 hl hs hk]
 simp only[Option.bind_some]
 cases ho:fF f with
 | false=>exact⟨[],rfl,rfl,by simp⟩
 | true =>
  simp only[Bool.not_true,Bool.false_eq_true,if_false]
  have ho':=ho
  unfold fF at ho'
  rw[Bool.and_eq_true] at ho'
  have hlen:=bw.1 ho'.1
  have ht:=ho'.2
  unfold wn at ht
  cases hc:fD f f.length ((f.length:Int) - 1) with
  | none=>rw[hc] at ht; cases ht
  | some p =>
   obtain⟨h1,h2⟩:=Jn (by omega) f.length ((f.length:Int) - 1) p.1 p.2 hc
   rw[wr (by omega) (by omega),(h1 1).1,(h1 0).2,H9]
   simp only[Option.bind_some,aQ]
   by_cases hb:(df f f.length ((f.length:Int) - 1) 1).length > 200
   ·rw[aB (by omega)]
    exact⟨[],rfl,rfl,by simp⟩
   ·rw[aA (by omega)]
    exact⟨_,rfl,rfl,by omega⟩
end
def Ok {α:Type} (P:α→Prop) (o:Option α):Prop := ∃ a,o=some a∧P a
theorem Ok.one {α:Type} {P:α→Prop} {a:α} (h:P a):Ok P (some a):=⟨a,rfl,h⟩
theorem Ok.bnd {α β:Type} {P:α→Prop} {Q:β→Prop} {o:Option α} {f:α→Option β} (h:Ok P o) (k : ∀ a,P a→Ok Q (f a)):Ok Q (o.bind f):=by
 obtain⟨a,e,p⟩:=h
 rw[e]
 exact k a p
theorem Ok.ite {α:Type} {c:Prop} [Decidable c] {Q:α→Prop} {a b:Option α} (h:c→Ok Q a) (k : ¬c→Ok Q b):Ok Q (if c then a else b):=by
 by_cases e:c
 ·rw[if_pos e]; exact h e
 ·rw[if_neg e]; exact k e
theorem Ok.inb {α β:Type} {Q:β→Prop} {xs:List α} {i:Int} {k:Option β} (h:0≤i∧i < (xs.length:Int)) (hk:Ok Q k):Ok Q (inb xs i k):=by
 rw[bC h.1 h.2]; exact hk
theorem Ok.cats {β:Type} {Q:β→Prop} {a b:ByteArray} {f:ByteArray→Option β} (h:a.size+b.size≤9223372036854775807) (hk:Ok Q (f (a++b))):Ok Q (cats a b f):=by
 rw[fy h]; exact hk
theorem Ok.nz {β:Type} {Q:β→Prop} {b:Int} {k:Option β} (h:b≠0) (hk:Ok Q k):Ok Q (nz b k):=by
 rw[Hk h]; exact hk
theorem Ok.app {α β:Type} {Q:β→Prop} {a b:List α} {n:Nat} {f:List α→Option β} (h:(a.length+b.length)*n≤140737488355328) (hk:Ok Q (f (a++b))):Ok Q (app a b n f):=by
 rw[bd h]; exact hk
theorem Ok.mono {α:Type} {P Q:α→Prop} {o:Option α} (h:Ok P o) (k : ∀ a,P a→Q a):Ok Q o:=by
 obtain⟨a,e,p⟩:=h
 exact⟨a,e,k a p⟩
theorem VQ {l:List ByteArray} {n:Nat} (h : ∀ x∈l,x.size≤n) (i:Nat) (d:ByteArray) (hd:d.size≤n):(l.getD i d).size≤n:=by
 rw[List.getD_eq_getElem?_getD]
 by_cases e:i < l.length
 ·rw[List.getElem?_eq_getElem e]; exact h _ (List.getElem_mem e)
 ·rw[List.getElem?_eq_none (by omega)]; exact hd
structure ZX (c:List Int):Prop where
 len:c.length≤1048576
 all : ∀ b∈c,0≤b∧b≤255
section
variable {c:List Int} (hc:ZX c)
include hc
end
theorem Ok.inbL {β:Type} {Q:β→Prop} {l:List ByteArray} {i n:Int} {k:Option β} (d:ByteArray) (h0:0≤i) (h1:i < n) (hl:n=(l.length:Int)) (hs : ∀ x∈l,x.size≤20) (hd:d.size≤20) (hk:(l.getD i.toNat d).size≤20→Ok Q k):Ok Q (Abs.inb l i k) :=
 Ok.inb ⟨h0,by omega⟩ (hk (VQ hs _ _ hd))
section
end
def sT (x:aa):Bool:=decide (x.1=2) || decide (x.1=3)
def b7 (f:List aa):List ag:=(f.filter sT).map de
def kk (ar:List ag) (l:List ah):List ah:=l.filter fun c=>ar.any fun a=>dJ a c.1
theorem XA (r:ao):dJ (r,r,()) r=true:=by
 unfold dJ
 rw[Bool.and_eq_true,bw,bw]
 exact⟨⟨Int.le_refl _,Int.le_refl _⟩,Int.le_refl _,Int.le_refl _⟩
theorem OC {ar:List ag} {r:ao} (h : ∃ a∈ar,dJ a r=true) : ∀ l:List ah,fJ (kk ar l) r=fJ l r
 | []=>rfl
 | c :: l=>by
  have ih:=OC h l
  unfold kk at ih ⊢
  rw[List.filter_cons]
  by_cases hc:(ar.any fun a=>dJ a c.1)=true
  ·rw[if_pos hc]
   unfold fJ
   rw[ih]
  ·rw[if_neg hc,ih]
   have:c.1≠r:=by
    rintro rfl
    exact hc (List.any_eq_true.2 h)
   conv=>rhs; unfold fJ
   rw[if_neg this]
theorem XB {ar:List ag} {a:ag} (h:a∈ar) (l:List ah):iT (kk ar l) a=iT l a:=by
 unfold iT kk
 rw[List.filter_filter]
 congr 1
 refine List.filter_congr fun c _ => ?_
 cases hc:dJ a c.1 with
 | false=>rfl
 | true =>
  rw[Bool.true_and]
  exact List.any_eq_true.2 ⟨a,h,hc⟩
section
variable {f:List aa} {l:List ah}
theorem XC {k:Int} (h0:0≤k) (h1:k < f.length):fQ f k∈f:=by
 unfold fQ
 rw[List.getD_eq_getElem?_getD,List.getElem?_eq_getElem (by omega)]
 exact List.getElem_mem _
theorem K5 {x:aa} (h:x∈f) (k:sT x=true):de x∈b7 f:=List.mem_map_of_mem (List.mem_filter.2 ⟨h,k⟩)
theorem OD {ev ev':Int→ab} : ∀ ks:List Int,(∀ k∈ks,0≤k∧k < f.length)→(∀ k∈ks,ev' k=ev k)→jy ev' f (kk (b7 f) l) ks=jy ev f l ks
 | [],_,_=>rfl
 | k :: ks,hb,he=>by
  unfold jy
  rw[OD ks (fun j hj=>hb j (List.mem_cons_of_mem _ hj)) (fun j hj=>he j (List.mem_cons_of_mem _ hj)),he k List.mem_cons_self]
  by_cases h3:(fQ f k).1=3
  ·have hb:=hb k List.mem_cons_self
   rw[if_pos h3,if_pos h3,XB (K5 (XC hb.1 hb.2) (by unfold sT; rw[h3]; rfl))]
  ·rw[if_neg h3,if_neg h3]
theorem OE (A : ∀(i:Nat) (x:aa),f[i]? = some x→mE f i x) : ∀(n:Nat) (k:Int),0≤k→k < n→k < f.length→cI n f (kk (b7 f) l) k=cI n f l k
 | 0,k,h0,h1,_=>by omega
 | n+1,k,h0,h1,h2=>by
  obtain⟨x,hx⟩ : ∃ y,f[k.toNat]? = some y:=⟨f[k.toNat]'(by omega),List.getElem?_eq_getElem _⟩
  have hst:=A _ _ hx
  have hnx:fQ f k=x:=by
   unfold fQ
   rw[List.getD_eq_getElem?_getD,hx]
   rfl
  have hm:x∈f:=List.mem_of_getElem? hx
  have hb : ∀ j∈x.2.2.2.2.2.1,0≤j∧j < f.length:=fun j hj=>by
   have:=hst.2 j hj
   omega
  have hk : ∀ j∈x.2.2.2.2.2.1,cI n f (kk (b7 f) l) j=cI n f l j:=fun j hj=>by
   have:=hst.2 j hj
   exact OE A n j this.1 (by omega) (by omega)
  have h00:cI n f (kk (b7 f) l) 0=cI n f l 0:=by
   cases n with
   | zero=>rfl
   | succ n=>exact OE A (n+1) 0 (by omega) (by omega) (by omega)
  have hkid : ∀ i:Nat,cI n f (kk (b7 f) l) (x.2.2.2.2.2.1.getD i 0)=cI n f l (x.2.2.2.2.2.1.getD i 0):=fun i=>by
   rw[List.getD_eq_getElem?_getD]
   by_cases e:i < x.2.2.2.2.2.1.length
   ·rw[List.getElem?_eq_getElem e]
    exact hk _ (List.getElem_mem e)
   ·rw[List.getElem?_eq_none (by omega)]
    exact h00
  unfold cI
  simp only[hnx,hkid]
  have hargs:=OD (l:=l) (ev:=cI n f l) (ev':=cI n f (kk (b7 f) l)) _ hb hk
  rw[hargs]
  by_cases k2:x.1=2
  ·rw[OC ⟨_,K5 hm (by unfold sT; rw[k2]; rfl),?_⟩]
   unfold de
   rw[if_pos k2]
   exact XA _
  ·rw[if_neg k2,if_neg k2]
end
theorem OF : ∀ {l:List ao} {o:Option ao},(l.Pairwise fun a b=>jx a b=true)→(∀ a,o=some a → ∀ b∈l,jx a b=true)→tT o l=true
 | [],o,_,_=>by cases o <;> rfl
 | b :: l,o,h,ho=>by
  have h':=List.pairwise_cons.1 h
  rw[KL,OF (o:=some b) h'.2 (fun a e=>by cases e; exact h'.1),Bool.and_true]
  cases o with
  | none=>rfl
  | some a=>exact ho a rfl b List.mem_cons_self
theorem OG {f:List aa} {l:List ah} (h:fF f=true):fK f (kk (b7 f) l)=fK f l:=by
 have hb:cg (f.length:Int) 1 60=true:=by
  unfold fF at h
  simp only[Bool.and_eq_true] at h
  exact h.1
 have:=bw.1 hb
 unfold fK
 rw[OE (np h) f.length _ (by omega) (by omega) (by omega)]
def jB (d:al):Bool:=d.all dt && decide (bE 0 d≤1000000000000000)
theorem VR {d:al} (hne:d≠[]) (h:d.length=1∨d.head? ≠ some 48):ki d=d.all dt:=by
 have hl:=List.length_pos_iff.2 hne
 unfold ki
 rw[decide_eq_true (show 1≤d.length by omega),Bool.and_true]
 rcases h with h | h
 ·rw[decide_eq_true h]; simp
 ·rw[decide_eq_false h]; simp
theorem VS {d:al} (hne:d≠[]) (h:d.length=1∨d.head? ≠ some 48):(cK d 16 && decide (bE 0 d≤1000000000000000))=jB d:=by
 unfold cK jB
 rw[VR hne h]
 cases ha:d.all dt with
 | false=>simp
 | true =>
  simp only[Bool.true_and]
  by_cases hv:bE 0 d≤1000000000000000
  ·have hd:=(Rg d (by rw[VR hne h]; exact ha)).1
   have:=TA hv
   rw[hd] at this
   rw[decide_eq_true this]
   rfl
  ·rw[decide_eq_false hv,Bool.and_false]
theorem aaq {d:al} (h:cK d 16=true):bE 0 d < 10000000000000000:=by
 unfold cK ki at h
 simp only[Bool.and_eq_true,decide_eq_true_eq] at h
 have:=Ej d 0 h.1.1.1
 have h2:10 ^ d.length≤10 ^ 16:=Nat.pow_le_pow_right (by decide) h.2
 omega
theorem XD (n:Int):ax (vN n)=cg n (-1000000000000000) 1000000000000000:=by
 unfold ax vN
 simp
def r8 (b:Bool) (n:Nat):Int:=if b=true then -(n:Int) else n
theorem OH {b:Bool} {n:Nat}:ax (vN (r8 b n))=decide (n≤1000000000000000):=by
 rw[XD]
 unfold r8 cg
 rw[Bool.eq_iff_iff,decide_eq_true_eq,decide_eq_true_eq]
 cases b <;> simp <;> omega
theorem VT {d:al} {b:Bool}:((cW (ba d) 16).bind fun z4=>(if b=true then(if z4.1.2.1=true then((ed (1,(IntKind.i64.wrap (0 - z4.1.1)),(⟨#[]⟩:ByteArray),())).bind fun z5=>(some (((1,(IntKind.i64.wrap (0 - z4.1.1)),(⟨#[]⟩:ByteArray),()),z5.1.1,()),(())))) else(some (((1,(IntKind.i64.wrap (0 - z4.1.1)),(⟨#[]⟩:ByteArray),()),false,()),(())))) else(if z4.1.2.1=true then((ed (1,z4.1.1,(⟨#[]⟩:ByteArray),())).bind fun z6=>(some (((1,z4.1.1,(⟨#[]⟩:ByteArray),()),z6.1.1,()),(())))) else(some (((1,z4.1.1,(⟨#[]⟩:ByteArray),()),false,()),(()))))))
  = (some ((vN (r8 b (if cK d 16=true then bE 0 d else 0)),(cK d 16 && decide (bE 0 d≤1000000000000000)),()),()):Option ((ab×Bool×Unit)×Unit)):=by
 have e:=Dw d (m:=16) (by decide)
 have e:cW (ba d) 16=_:=e
 rw[e]
 simp only[Option.bind_some]
 cases hr:cK d 16 with
 | false=>cases b <;> rfl
 | true =>
  have hlt:=aaq hr
  simp only[if_true,Bool.true_and]
  cases b with
  | true =>
   simp only[if_true]
   rw[wr (by omega) (by omega)]
   have ev:((1,0 - ((bE 0 d:Nat):Int),(⟨#[]⟩:ByteArray),()):ab)=vN (r8 true (bE 0 d)):=by
    unfold vN r8
    rw[if_pos rfl,show(0:Int) - ((bE 0 d:Nat):Int) = -((bE 0 d:Nat):Int) by omega]
   rw[ev,fd (by show eS.size≤_; decide),OH]
   rfl
  | false =>
   simp only[Bool.false_eq_true,if_false]
   have ev:((1,((bE 0 d:Nat):Int),(⟨#[]⟩:ByteArray),()):ab)=vN (r8 false (bE 0 d)):=rfl
   rw[ev,fd (by show eS.size≤_; decide),OH]
   rfl
theorem TL {b:Bool} : ∀(d:al),d≠[]→d.length≤9223372036854775807 → ∃ v:ab,kb (ba d) b 0 0 (⟨#[]⟩:ByteArray)=some ((v,jB d,()),())∧(jB d=true→v=vN (r8 b (bE 0 d)))
 | [],h,_=>absurd rfl h
 | c :: l,h,hl=>by
  have aO:(c :: l:al).length=1∨(c :: l:al).head? ≠ some 48 → ∃ v:ab,(some ((vN (r8 b (if cK (c :: l) 16=true then bE 0 (c :: l) else 0)),(cK (c :: l) 16 && decide (bE 0 (c :: l)≤1000000000000000)),()),()):Option ((ab×Bool×Unit)×Unit))=some ((v,jB (c :: l),()),())∧(jB (c :: l)=true→v=vN (r8 b (bE 0 (c :: l)))):=by
   intro hc
   rw[VS h hc]
   refine⟨_,rfl,fun ho => ?_⟩
   rw[←VS h hc,Bool.and_eq_true] at ho
   rw[if_pos ho.1]
  rw[HH,aQ]
  by_cases h1:1 < (c :: l:al).length
  ·rw[aB (by omega),re,F7 c 48 (n:=48) rfl]
   by_cases h48:c=48
   ·subst h48
    rw[aB rfl,show(1:Int)=((1:Nat):Int) from rfl,fR (by simp)]
    simp only[List.drop_succ_cons,List.drop_zero]
    have hne:l≠[]:=by
     rintro rfl
     simp at h1
    have hll:l.length≤9223372036854775807:=by rw[List.length_cons] at hl; omega
    obtain⟨v,e1,e2⟩:=TL (b:=b) l hne hll
    have eo:jB (48 :: l)=jB l:=by
     unfold jB
     rfl
    rw[eo]
    exact⟨v,e1,e2⟩
   ·rw[aA h48,VT]
    exact aO (.inr (by simpa using h48))
  ·rw[aA (by omega),VT]
   exact aO (.inl (by simp only[List.length_cons] at h1 ⊢; omega))
def OI (w:al):Bool:=decide (w.head? = some 45)
def iW (w:al):al:=if w.head? = some 45 then w.drop 1 else w
def gh (w:al):Bool:=decide (iW w≠[]) && jB (iW w)
def kN (w:al):Int:=r8 (OI w) (bE 0 (iW w))
theorem DC {w:al} (hw:w≠[]) (hl:w.length≤9223372036854775807) : ∃ v:ab,CW (ba w)=some ((v,gh w,()),())∧(gh w=true→v=vN (kN w)):=by
 cases w with
 | nil=>exact absurd rfl hw
 | cons c l =>
  rw[Nk,aQ,aB (by simp),re,F7 c 45 (n:=45) rfl]
  by_cases hc:c=45
  ·subst hc
   have hm:iW (45 :: l)=l:=rfl
   have hg:OI (45 :: l)=true:=rfl
   have e0:(ByteArray.toList (ba l) == ByteArray.toList (⟨#[]⟩:ByteArray))=decide (l=[]):=dF (b:=[])
   rw[aB rfl,show(1:Int)=((1:Nat):Int) from rfl,fR (by simp)]
   simp only[List.drop_succ_cons,List.drop_zero]
   rw[e0]
   unfold gh kN
   rw[hm,hg]
   by_cases hn:l=[]
   ·rw[aB hn]
    subst hn
    exact⟨_,rfl,fun h=>by cases h⟩
   ·rw[aA hn]
    obtain⟨v,e1,e2⟩:=TL (b:=true) l hn (by rw[List.length_cons] at hl; omega)
    refine⟨v,?_,fun h => ?_⟩
    ·simpa[hn] using e1
    ·rw[Bool.and_eq_true] at h
     exact e2 h.2
  ·have hm:iW (c :: l)=c :: l:=if_neg (by simpa using hc)
   have hg:OI (c :: l)=false:=decide_eq_false (by simpa using hc)
   have e0:(ByteArray.toList (ba (c :: l)) == ByteArray.toList (⟨#[]⟩:ByteArray))=decide (c :: l=[]):=dF (b:=[])
   rw[aA hc,e0,aA (by simp)]
   unfold gh kN
   rw[hm,hg]
   obtain⟨v,e1,e2⟩:=TL (b:=false) (c :: l) (by simp) hl
   refine⟨v,?_,fun h => ?_⟩
   ·simpa[hc] using e1
   ·rw[Bool.and_eq_true] at h
    exact e2 h.2
theorem ZY:(fun c=>([48,49,50,51,52,53,54,55,56,57]:al).contains c)=dt:=funext fun c=>Dq (p:=fun c=>([48,49,50,51,52,53,54,55,56,57]:al).contains c=dt c) (by decide +kernel) c
theorem Ic {p:UInt8→Bool} : ∀ {l:al} {x:UInt8} {t:al},l.dropWhile p=x :: t→p x=false
 | c :: l,x,t,h=>by
  cases hc:p c with
  | true =>
   rw[List.dropWhile_cons_of_pos hc] at h
   exact Ic h
  | false =>
   rw[List.dropWhile_cons_of_neg (by rw[hc]; decide)] at h
   cases h
   exact hc
theorem xY {p:UInt8→Bool} : ∀ {l:al},l.dropWhile p=[]↔l.all p=true
 | []=>by simp
 | c :: l=>by
  cases hc:p c with
  | true=>rw[List.dropWhile_cons_of_pos hc,xY]; simp[hc]
  | false=>rw[List.dropWhile_cons_of_neg (by rw[hc]; decide)]; simp[hc]
theorem XE (d:al):(Lib.trimS d [48,49,50,51,52,53,54,55,56,57]=[])↔d.all dt=true:=by
 unfold Lib.trimS Lib.trimLeftS Lib.trimRightS
 rw[ZY,xY]
 constructor
 ·intro h
  cases hr:d.reverse.dropWhile dt with
  | nil =>
   rw[xY] at hr
   simpa using hr
  | cons x t =>
   have hx:=Ic hr
   rw[hr] at h
   simp only[List.all_reverse,List.all_cons,Bool.and_eq_true] at h
   rw[hx] at h
   cases h.1
 ·intro h
  have:d.reverse.dropWhile dt=[]:=xY.2 (by simpa using h)
  rw[this]
  rfl
theorem OJ {w:al} (hl:w.length≤1000000):C1 (ba w)=some (((decide (iW w≠[]) && (iW w).all dt),()),()):=by
 have hp:md (ba w) (⟨#[45]⟩:ByteArray)=some ((ba (iW w),()),()):=by
  rw[zS,uP,show(⟨#[45]⟩:ByteArray)=ba [45] from rfl,yC _ _ (by omega)]
  simp only[Option.bind_some,F5]
  unfold iW
  by_cases h:w.head? = some 45
  ·obtain⟨t,rfl⟩:=kv h
   rw[aB h,if_pos h,aQ,fR (by simp)]
   rfl
  ·rw[aA h,if_neg h]
   rfl
 rw[Nr,hp]
 simp only[Option.bind_some]
 have e0 : ∀ x:al,(ByteArray.toList (ba x) == ByteArray.toList (⟨#[]⟩:ByteArray))=decide (x=[]):=fun x=>dF (b:=[])
 have hm:(iW w).length≤w.length:=by
  unfold iW
  split <;> simp
 rw[e0]
 by_cases hn:iW w=[]
 ·simp[hn]
 ·have ht:vF (ba (iW w)) (⟨#[48,49,50,51,52,53,54,55,56,57]⟩:ByteArray)=some ((ba (Lib.trimS (iW w) [48,49,50,51,52,53,54,55,56,57]),()),()):=by
   rw[Hy]
   show(if vu (ba [48,49,50,51,52,53,54,55,56,57])=true∧(ba (iW w)).size≤9223372036854775807 then some (((⟨(Lib.trimS (lb (ba (iW w))) (lb (ba [48,49,50,51,52,53,54,55,56,57]))).toArray⟩:ByteArray),()),()) else none)=_
   rw[if_pos ⟨by decide +kernel,by rw[aQ]; omega⟩,dv,dv]
  rw[ht]
  simp only[Option.bind_some,hn,decide_false,Bool.not_false,if_true,e0,ne_eq,not_false_eq_true,decide_true,Bool.true_and]
  congr 3
  rw[Bool.eq_iff_iff,decide_eq_true_eq]
  exact XE _
theorem OK : ∀(l:al) (a u:Nat),l.all dt=true→Lib.parseUintM 18446744073709551615 a l = .ok u→u=bE a l
 | [],a,u,_,h=>by
  cases h
  rfl
 | c :: l,a,u,h,hp=>by
  simp only[List.all_cons,Bool.and_eq_true] at h
  have hd:48≤c.toNat∧c.toNat≤57:=by simpa[dt] using h.1
  unfold Lib.parseUintM at hp
  rw[if_pos hd] at hp
  split at hp
  ·cases hp
  ·split at hp
   ·cases hp
   ·exact OK l _ u h.2 hp
theorem K6 {w:al} (hne:iW w≠[]) (hd:(iW w).all dt=true) (h:(cj w).2=true):(cj w).1=kN w:=by
 unfold cj at h ⊢
 cases hp:Lib.parseIntB 64 w with
 | range=>rw[hp] at h; cases h
 | ok v =>
  simp only
  cases w with
  | nil=>exact absurd rfl hne
  | cons c l =>
   unfold Lib.parseIntB at hp
   simp only at hp
   unfold kN
   by_cases hc:c=45
   ·subst hc
    have hm:iW (45 :: l)=l:=rfl
    have hg:OI (45 :: l)=true:=rfl
    rw[hm] at hne hd
    have h45:(45:UInt8).toNat=45:=rfl
    rw[if_pos (.inr h45)] at hp
    unfold Lib.parseUintB at hp
    rw[if_neg hne] at hp
    cases hu:Lib.parseUintM (2 ^ 64 - 1) 0 l with
    | range=>rw[hu] at hp; cases hp
    | ok u =>
     rw[hu] at hp
     have:=OK l 0 u hd hu
     simp only at hp
     split at hp
     ·cases hp
     ·split at hp
      ·cases hp
      ·cases hp
       rw[hm,hg,this]
       rfl
    | _=>rw[hu] at hp; cases hp
   ·have hm:iW (c :: l)=c :: l:=if_neg (by simpa using hc)
    have hg:OI (c :: l)=false:=decide_eq_false (by simpa using hc)
    rw[hm] at hd
    have hcd:48≤c.toNat∧c.toNat≤57:=by
     simp only[List.all_cons,Bool.and_eq_true] at hd
     simpa[dt] using hd.1
    rw[if_neg (by omega)] at hp
    unfold Lib.parseUintB at hp
    rw[if_neg (by simp)] at hp
    cases hu:Lib.parseUintM (2 ^ 64 - 1) 0 (c :: l) with
    | range=>rw[hu] at hp; cases hp
    | ok u =>
     rw[hu] at hp
     have:=OK (c :: l) 0 u hd hu
     simp only at hp
     split at hp
     ·cases hp
     ·split at hp
      ·cases hp
      ·rw[if_neg (by omega)] at hp
       cases hp
       rw[hm,hg,this]
       rfl
    | _=>rw[hu] at hp; cases hp
 | _=>rw[hp] at h; cases h
theorem Qg {w:al} (h:gh w=true):cj w=(kN w,true):=by
 unfold gh jB at h
 simp only[Bool.and_eq_true,decide_eq_true_eq] at h
 obtain⟨hne,hd,hv⟩:=h
 have hp2:(cj w).2=true:=by
  cases w with
  | nil=>exact absurd rfl hne
  | cons c l =>
   by_cases hc:c=45
   ·subst hc
    have hm:iW (45 :: l)=l:=rfl
    rw[hm] at hne hd hv
    have h45:(45:UInt8).toNat=45:=rfl
    have hu:Lib.parseUintM (2 ^ 64 - 1) 0 l = .ok (bE 0 l):=L1 l 0 hd (by omega)
    have:Lib.parseIntB 64 (45 :: l) = .ok (-((bE 0 l:Nat):Int)):=by
     unfold Lib.parseIntB
     simp only
     rw[if_pos (.inr h45)]
     unfold Lib.parseUintB
     rw[if_neg hne,hu]
     simp only
     rw[if_neg (by omega),if_neg (by omega)]
     rfl
    unfold cj
    rw[this]
   ·have hm:iW (c :: l)=c :: l:=if_neg (by simpa using hc)
    rw[hm] at hd hv
    have hcd:48≤c.toNat∧c.toNat≤57:=by
     have hd':=hd
     simp only[List.all_cons,Bool.and_eq_true] at hd'
     simpa[dt] using hd'.1
    have hu:Lib.parseUintM (2 ^ 64 - 1) 0 (c :: l) = .ok (bE 0 (c :: l)):=L1 (c :: l) 0 hd (by omega)
    have:Lib.parseIntB 64 (c :: l) = .ok ((bE 0 (c :: l):Nat):Int):=by
     unfold Lib.parseIntB
     simp only
     rw[if_neg (by omega)]
     unfold Lib.parseUintB
     rw[if_neg (by simp),hu]
     simp only
     rw[if_neg (by omega),if_neg (by omega),if_neg (by omega)]
    unfold cj
    rw[this]
 exact Prod.ext (K6 hne hd hp2) hp2
theorem ZZ {w:al} (h:gh w=false) (h1:(cj w).2=true) (h2:(decide (iW w≠[]) && (iW w).all dt)=true):ax (vN (cj w).1)=false:=by
 simp only[Bool.and_eq_true,decide_eq_true_eq] at h2
 rw[K6 h2.1 h2.2 h1]
 unfold kN
 rw[OH]
 unfold gh jB at h
 rw[decide_eq_true h2.1,h2.2] at h
 simpa using h
theorem Ie {w:al} (h:gh w=true) : -1000000000000000≤kN w∧kN w≤1000000000000000:=by
 unfold gh jB at h
 simp only[Bool.and_eq_true,decide_eq_true_eq] at h
 unfold kN r8
 split <;> omega
theorem BL {x:ByteArray} (hx:x.size≤9223372036854775807) : ∃(t:al) (b:Bool),A9 x=some ((ba t,b,()),())∧mb x=some ((ba t,b,()),())∧t.length≤200:=by
 obtain⟨w,rfl⟩ : ∃ s,x=ba s:=⟨lb x,(d9 x).symm⟩
 rw[PX,yy,om hx,Br hx]
 simp only[Option.bind_some]
 have e0 : ∀ x:al,(ByteArray.toList (ba x) == ByteArray.toList (⟨#[]⟩:ByteArray))=decide (x=[]):=fun x=>dF (b:=[])
 rw[e0]
 cases hp:(plain (ba w) && decide (((ba w).size:Int)≤200)) with
 | false =>
  have hw:w≠[]:=by
   rintro rfl
   exact absurd hp (by decide)
  rw[decide_eq_false hw]
  exact⟨[],false,rfl,rfl,by simp⟩
 | true =>
  have hp':=hp
  rw[Bool.and_eq_true,decide_eq_true_eq,aQ] at hp'
  have hl:w.length≤200:=by omega
  simp only[Bool.not_true,Bool.false_eq_true,if_false]
  by_cases hw:w=[]
  ·subst hw
   exact⟨[],true,rfl,rfl,by simp⟩
  ·rw[aA hw,aA hw]
   have hcut:cq (ba w) (⟨#[61]⟩:ByteArray)=_:=tE w [61] (by omega)
   rw[hcut]
   simp only[Option.bind_some,F5]
   cases w with
   | nil=>exact absurd rfl hw
   | cons c l =>
    rw[re,F7 c 61 (n:=61) rfl]
    by_cases hc:c=61
    ·subst hc
     have hll:l.length≤200:=by rw[List.length_cons] at hl; omega
     simp only[List.head?_cons,decide_true,if_true,List.length_singleton,List.drop_succ_cons,List.drop_zero]
     rw[show(1:Int)=((1:Nat):Int) from rfl,fR (by simp)]
     simp only[List.drop_succ_cons,List.drop_zero]
     obtain⟨f,b,r1,r2,r3,r4⟩:=L2 (x:=ba l) (by rw[aQ]; omega)
     rw[r1,r2]
     simp only[Option.bind_some]
     have hsm:f.length≤10000000∧(∀ x∈f,x.2.2.1.2.2.1.size≤9223372036854775807) ∧ ∀ x∈f,x.2.2.2.2.2.1.length≤10000000:=by
      cases b with
      | false=>rw[r4 rfl]; simp
      | true =>
       have ho:=r3 rfl
       have hs:dw f=true:=by
        unfold dw
        rw[List.all_eq_true]
        intro y hy
        obtain⟨i,hi⟩:=List.getElem?_of_mem hy
        exact(np ho i y hi).1
       have ho':=ho
       unfold fF at ho'
       rw[Bool.and_eq_true] at ho'
       have:=bw.1 ho'.1
       exact⟨by omega,Oy (wB hs),Oz (wB hs)⟩
     obtain⟨t,t1,t2,t3⟩:=Jo hsm.1 hsm.2.1 hsm.2.2
     rw[t2,Nq,t1]
     simp only[Option.bind_some]
     rw[show(⟨#[61]⟩:ByteArray)=ba [61] from rfl,bF (by simp only[List.length_singleton]; omega),e0,aQ]
     cases b with
     | false =>
      simp only[Bool.not_false,if_true]
      refine⟨[],false,?_,rfl,by simp⟩
      by_cases ht:t=[] <;> simp[ht]
     | true =>
      simp only[Bool.not_true,Bool.false_eq_true,if_false]
      by_cases ht:t=[]
      ·refine⟨[],false,?_,?_,by simp⟩ <;> simp[ht]
      ·rw[wr (by omega) (by omega)]
       by_cases h2:t.length < 200
       ·refine⟨61 :: t,true,?_,?_,by rw[List.length_cons]; omega⟩
        ·rw[decide_eq_false ht,decide_eq_true (show(t.length:Int) < 200 by omega)]
         rfl
        ·rw[aA ht,aA (by omega),bF (by simp only[List.length_singleton]; omega)]
         rfl
       ·refine⟨[],false,?_,?_,by simp⟩
        ·rw[decide_eq_false ht,decide_eq_false (show ¬(t.length:Int) < 200 by omega)]
         rfl
        ·rw[aA ht,aB (by omega)]
    ·have hnc : ¬(some c=some (61:UInt8)):=by simpa using hc
     simp only[List.head?_cons,hnc,decide_false,Bool.false_eq_true,if_false,hc]
     generalize hwd:(c :: l:al)=w at *
     have hsz:(ba w).size=w.length:=aQ w
     rw[yF (by omega)]
     obtain⟨v,n1,n2⟩:=DC hw (by omega)
     rw[n1,OJ (by omega),oO (by omega),oM (by omega)]
     simp only[Option.bind_some,jw]
     rw[fe (by show eS.size≤_; decide)]
     simp only[Option.bind_some]
     have tail : ∃(t:al) (b:Bool),(if(bB w).2=true then(some ((ba w,true,()),(())):Option ((ByteArray×Bool×Unit)×Unit)) else(if((ByteArray.size (ba w):Int) == 200)=true then(some (((⟨#[]⟩:ByteArray),false,()),(()))) else(cats (⟨#[39]⟩:ByteArray) (ba w) fun y2=>(some ((y2,true,()),(()))))))=some ((ba t,b,()),())
       ∧ (if(!(bB w).2)=true then((dX (2,0,ba w,())).bind fun z7=>(if(decide ((ByteArray.size z7.1.1:Int) > 200))=true then(some (((⟨#[]⟩:ByteArray),false,()),(()))) else(some ((z7.1.1,true,()),(()))))) else((dX (bB w).1).bind fun z8=>(if(decide ((ByteArray.size z8.1.1:Int) > 200))=true then(some (((⟨#[]⟩:ByteArray),false,()),(()))) else(some ((z8.1.1,true,()),(()))))))=some ((ba t,b,()),())∧t.length≤200:=by
      cases hr:(bB w).2 with
      | true =>
       obtain⟨k1,k2⟩:=ph hr
       refine⟨w,true,rfl,?_,hl⟩
       simp only[Bool.not_true,Bool.false_eq_true,if_false]
       rw[eI (co k1),if_pos k1,k2]
       simp only[Option.bind_some]
       rw[aA (by rw[hsz]; omega)]
      | false =>
       simp only[Bool.not_false,Bool.false_eq_true,if_false,if_true]
       have hov:ax (2,0,ba w,())=true:=by
        unfold ax
        rw[if_pos rfl]
        simp only[decide_true,Bool.true_and]
        exact hp
       have htx:bG (2,0,ba w,())=ba (39 :: w):=by
        show(⟨#[39]⟩:ByteArray)++ba w=_
        rw[show(⟨#[39]⟩:ByteArray)=ba [39] from rfl,k9]
        rfl
       rw[eI (co hov),if_pos hov,htx,Ti (by omega),show(⟨#[39]⟩:ByteArray)=ba [39] from rfl,k9]
       simp only[Option.bind_some,aQ,List.length_cons]
       by_cases h2:w.length=200
       ·rw[if_pos (by simp[h2]),aB (by omega)]
        exact⟨[],false,rfl,rfl,by simp⟩
       ·rw[if_neg (by simp only[beq_iff_eq]; omega),aA (by omega)]
        exact⟨39 :: w,true,rfl,rfl,by rw[List.length_cons]; omega⟩
     cases ho:gh w with
     | true =>
      have hpv:=Qg ho
      have hrg:=Ie ho
      have hdg:(decide (iW w≠[]) && (iW w).all dt)=true:=by
       unfold gh jB at ho
       simp only[Bool.and_eq_true] at ho ⊢
       exact⟨ho.1,ho.2.1⟩
      have hok:ax (vN (kN w))=true:=by
       rw[XD]
       exact bw.2 hrg
      have hit:=uT (n:=kN w) (by omega) (by omega)
      rw[n2 ho,hpv,hdg]
      simp only[if_true,hok]
      rw[yB (by omega) (by omega),eI (co hok),if_pos hok]
      refine⟨lb (cP (kN w)),true,?_,?_,by rw[jk]; omega⟩
      ·rw[d9]; rfl
      ·rw[d9]; rfl
     | false =>
      obtain⟨t,b,s1,s2,s3⟩:=tail
      refine⟨t,b,?_,?_,s3⟩
      ·cases h1:(cj w).2 with
       | false=>simpa using s1
       | true =>
        cases h2:(decide (iW w≠[]) && (iW w).all dt) with
        | false=>simpa using s1
        | true =>
         rw[ZZ ho h1 h2]
         simpa using s1
      ·simpa using s2
noncomputable def hZ (x:ByteArray):ByteArray×Bool:=if h:x.size≤9223372036854775807 then(ba (BL h).choose,(BL h).choose_spec.choose) else(eS,false)
theorem wC {x:ByteArray} (h:x.size≤9223372036854775807):A9 x=some (((hZ x).1,(hZ x).2,()),())∧mb x=some (((hZ x).1,(hZ x).2,()),())∧(hZ x).1.size≤200:=by
 have hs:=(BL h).choose_spec.choose_spec
 unfold hZ
 rw[dif_pos h]
 exact⟨hs.1,hs.2.1,by rw[aQ]; exact hs.2.2⟩
noncomputable def fL (x:ByteArray):Bool:=(hZ x).2 && !decide (x=eS) && decide ((hZ x).1=x)
theorem rj {x:ByteArray} (h:x.size≤9223372036854775807):pF x=some ((fL x,()),()):=by
 rw[Ns,(wC h).1]
 simp only[Option.bind_some,s4]
 unfold fL
 cases (hZ x).2 <;> by_cases hx:x=eS <;> simp[hx]
def ck (a b:ao):Bool:=decide (a.2.1 < b.2.1) || (decide (a.2.1=b.2.1) && decide (a.1 < b.1))
theorem Fe (a b:ao):oY a b=some ((ck a b,()),()):=by
 rw[E2]
 unfold ck
 by_cases h1:a.2.1 < b.2.1
 ·simp[h1]
 ·by_cases h2:a.2.1=b.2.1 <;> simp[h1,h2]
theorem Ig (a b:ao) : ∃ k:Int,vC a b=some ((k,()),())∧(k < 0↔ck a b=true):=by
 rw[Hp,Dj,Dj]
 simp only[Option.bind_some]
 rw[NG (by simp)]
 refine⟨_,rfl,?_⟩
 unfold ck
 by_cases h1:a.2.1 < b.2.1
 ·simp[rd,h1]
 ·by_cases h2:b.2.1 < a.2.1
  ·have h3 : ¬a.2.1=b.2.1:=by omega
   simp[rd,h1,h2,h3]
  ·have h3:a.2.1=b.2.1:=by omega
   by_cases h4:a.1 < b.1
   ·simp[rd,h1,h2,h3,h4]
   ·by_cases h5:b.1 < a.1
    ·simp[rd,h1,h2,h3,h4,h5]
    ·simp[rd,h1,h2,h3,h4,h5]
noncomputable def DD:Option ae→List ae→Bool
 | _,[]=>true
 | o,c :: l=>bS c.1 && fL c.2.1 && (match o with | none=>true | some p=>ck p.1 c.1) && DD (some c) l
noncomputable def bz (s:List ae):Bool:=DD none s && decide (s.length≤120)
section
variable {s:List ae} (hs : ∀ c∈s,c.2.1.size≤9223372036854775807) (hl:s.length≤1000000000)
include hs hl
theorem Cf : ∀(ys pre:List ae),s=pre++ys→oc s s (s.length:Int) (pre.length:Int)=some ((DD pre.getLast? ys && decide (s.length≤120),()),())
 | [],pre,h=>by
  rw[Af,aA (bj h)]
  simp only[DD,Bool.true_and]
  congr 3
  rw[Bool.eq_iff_iff,decide_eq_true_eq,decide_eq_true_eq]
  omega
 | y :: ys,pre,h=>by
  have hy:=hs y (by rw[h]; simp)
  have ih:=Cf ys (pre++[y]) (az h)
  rw[List.getLast?_append] at ih
  simp only[List.getLast?_singleton,Option.or_some,Option.some_or] at ih
  rw[Af,aB (bu h),br h,tz]
  simp only[Option.bind_some,DD]
  cases hr:bS y.1 with
  | false=>simp
  | true =>
   simp only[Bool.not_true,Bool.false_eq_true,if_false,Bool.true_and]
   rcases List.eq_nil_or_concat pre with hp | ⟨q,z,hp⟩
   ·subst hp
    rw[aA (by simp),rj hy]
    simp only[Option.bind_some,List.getLast?_nil,Bool.and_true]
    cases fL y.2.1 with
    | false=>simp
    | true =>
     simp only[Bool.not_true,Bool.false_eq_true,if_false,Bool.true_and]
     rw[aJ (pre:=[]) h (by omega)]
     exact ih
   ·rw[List.concat_eq_append] at hp
    subst hp
    have hz:s=q++z :: (y :: ys):=by rw[h]; simp
    have hql:((q++[z]).length:Int) - 1=(q.length:Int):=by simp
    have hqs:q.length < s.length:=by rw[hz]; simp
    rw[aB (by simp),hql,wr (by omega) (by omega),br hz]
    obtain⟨k,k1,k2⟩:=Ig z.1 y.1
    rw[k1]
    simp only[Option.bind_some,List.getLast?_append,List.getLast?_singleton,Option.some_or]
    by_cases hk:k < 0
    ·rw[aA (by omega),rj hy,k2.1 hk]
     simp only[Option.bind_some,Bool.and_true]
     cases fL y.2.1 with
     | false=>simp
     | true =>
      simp only[Bool.not_true,Bool.false_eq_true,if_false,Bool.true_and]
      rw[aJ h (by omega)]
      exact ih
    ·have:ck z.1 y.1=false:=by
      rw[Bool.eq_false_iff]
      exact fun e=>hk (k2.2 e)
     rw[aB (by omega),this]
     simp
theorem Qh:FQ s=some ((bz s,()),()):=by
 rw[PY]
 exact Cf hs hl s [] rfl
end
theorem Z0 {l:al} (h:l.all dt=true):l.all bh=true:=by
 rw[List.all_eq_true] at h ⊢
 intro c hc
 unfold bh
 rw[h c hc]
 simp
end Go.Proofs.YteaahciglahehaaGreatDoor.Abs
