/- Plain laws: operations, quoted texts, names of errors and functions, as both sides read them. -/
import Derived.Test.YteaahciglahehaaGreatDoorZM6
import Derived.Lib.IndexBytes
set_option linter.unusedVariables false
set_option linter.unusedSimpArgs false
set_option linter.unusedSectionVars false
namespace Go.Proofs.YteaahciglahehaaGreatDoor.Abs
open Go
def dK (k:Int):Int:=if k≥6 then 1 else if k=5 then 2 else if k≥3 then 4 else 3
theorem yH (k:Int):vA k=some ((dK k,()),()):=by
 rw[PJ]
 unfold dK
 simp only[decide_eq_true_eq,beq_iff_eq]
 repeat' split
 all_goals first | rfl | omega
theorem KW {k:Int} (h0:1≤k) (h1:k≤11):C0 k=some ((dK k,()),()):=by
 rw[Vd]
 unfold dK
 simp only[beq_iff_eq]
 repeat' split
 all_goals first | rfl | omega
abbrev wA:List Int:=[7,9,11,6,8,10,1,2,3,4,5]
def Ce (L:Int) (m:al) (k:Int):Bool:=decide (dK k=L) && (eJ k).isPrefixOf m
theorem Jf (k:Int):(eJ k).length≤2:=by
 unfold eJ
 have : ∀ i:Nat,(([[],[43],[45],[42],[47],[38],[61],[60,62],[60],[60,61],[62],[62,61]]:List al).getD i []).length≤2:=by
  intro i
  by_cases hi:i < 12
  ·have h : ∀ j:Fin 12,(([[],[43],[45],[42],[47],[38],[61],[60,62],[60],[60,61],[62],[62,61]]:List al).getD j.val []).length≤2:=by decide
   exact h ⟨i,hi⟩
  ·rw[List.getD_eq_getElem?_getD,List.getElem?_eq_none (by simp; omega)]
   simp
 exact this _
section
variable {s:al} {ns:List aa} {L:Int}
def BH (s l l':al) (ns:List aa):Option Int→Option ((Int×Unit)×(lf×Unit))
 | some k=>some ((k,()),((ba s,at' s ((bl l).drop (eJ k).length),false,ns,()),()))
 | none=>some ((0,()),((ba s,at' s l',false,ns,()),()))
theorem ZS {pre ys:List Int} {k:Int} (h:wA=pre++k :: ys):List.getD wA (Int.toNat (pre.length:Int)) 0=k:=by rw[h]; exact gC
theorem KX {k:Int} (h:k∈wA):1≤k∧k≤11:=by
 have : ∀ k∈wA,1≤k∧k≤11:=by decide
 exact this k h
theorem DA (hs:s.length≤1000) : ∀(ys pre:List Int) (l:al),wA=pre++ys→l <:+ s → ∃ l',(l'=l∨l'=bl l)∧mv L (pre.length:Int) (ba s) (at' s l) false wA ns=BH s l l' ns (ys.find? (Ce L (bl l)))
 | [],pre,l,h,hl=>by
  refine⟨l,.inl rfl,?_⟩
  rw[xF,aA (bj h)]
  rfl
 | k :: ys,pre,l,h,hl=>by
  have hk:=KX (k:=k) (by rw[h]; simp)
  rw[xF,aB (bu h),gZ h,ZS h,yH]
  simp only[Option.bind_some,List.find?_cons,beq_iff_eq]
  by_cases hL:dK k=L
  ·rw[if_pos hL,gZ h,BF (by omega) (by omega)]
   simp only[Option.bind_some]
   have:=Jf k
   rw[iU hs (by omega) hl]
   simp only[Option.bind_some,Bool.not_false,Bool.true_and]
   cases hp:(eJ k).isPrefixOf (bl l) with
   | true =>
    simp only[if_true,Ce,hL,decide_true,Bool.true_and,hp]
    rw[gZ h]
    exact⟨l,.inl rfl,rfl⟩
   | false =>
    simp only[Bool.false_eq_true,if_false,Ce,hL,decide_true,Bool.true_and,hp]
    rw[aJ h (by decide)]
    obtain⟨l',h1,h2⟩:=DA hs ys (pre++[k]) (bl l) (az h) (ak (aF l) hl)
    rw[dM] at h1 h2
    refine⟨l',.inr (by simpa using h1),?_⟩
    rw[h2]
    unfold BH
    rw[dM]
  ·rw[if_neg hL,aJ h (by decide)]
   obtain⟨l',h1,h2⟩:=DA hs ys (pre++[k]) l (az h) hl
   refine⟨l',h1,?_⟩
   rw[h2]
   simp[Ce,hL]
theorem Od (hs:s.length≤1000) : ∀(ys pre:List Int) (l:al),wA=pre++ys→l <:+ s → ∃ l',(l'=l∨l'=bl l)∧sL L (pre.length:Int) (ba s) (at' s l) false ns wA=BH s l l' ns (ys.find? (Ce L (bl l)))
 | [],pre,l,h,hl=>by
  refine⟨l,.inl rfl,?_⟩
  rw[zX,aA (bj h)]
  rfl
 | k :: ys,pre,l,h,hl=>by
  have hk:=KX (k:=k) (by rw[h]; simp)
  rw[zX,aB (bu h),gZ h,ZS h,yH]
  simp only[Option.bind_some,List.find?_cons,beq_iff_eq]
  by_cases hL:dK k=L
  ·rw[if_pos hL,gZ h,BF (by omega) (by omega)]
   simp only[Option.bind_some]
   have:=Jf k
   rw[iU hs (by omega) hl]
   simp only[Option.bind_some,Bool.not_false,Bool.true_and]
   cases hp:(eJ k).isPrefixOf (bl l) with
   | true =>
    simp only[if_true,Ce,hL,decide_true,Bool.true_and,hp]
    rw[gZ h]
    exact⟨l,.inl rfl,rfl⟩
   | false =>
    simp only[Bool.false_eq_true,if_false,Ce,hL,decide_true,Bool.true_and,hp]
    rw[aJ h (by decide)]
    obtain⟨l',h1,h2⟩:=DA (L:=L) (ns:=ns) hs ys (pre++[k]) (bl l) (az h) (ak (aF l) hl)
    rw[dM] at h1 h2
    refine⟨l',.inr (by simpa using h1),?_⟩
    rw[h2]
    unfold BH
    rw[dM]
  ·rw[if_neg hL,aJ h (by decide)]
   obtain⟨l',h1,h2⟩:=Od hs ys (pre++[k]) l (az h) hl
   refine⟨l',h1,?_⟩
   rw[h2]
   simp[Ce,hL]
end
theorem H2 {α:Type} {p q:α→Bool} : ∀ {l:List α},(∀ x∈l,p x=q x)→l.find? p=l.find? q
 | [],_=>rfl
 | x :: l,h=>by
  rw[List.find?_cons,List.find?_cons,h x (by simp),H2 (fun y hy=>h y (List.mem_cons_of_mem _ hy))]
def pS (k:Int) (y:UInt8) (a b:Bool):Bool:=if k=7 then decide (y=60) && a else if k=9 then decide (y=60) && b else if k=11 then decide (y=62) && b else if k=6 then decide (y=61) else if k=8 then decide (y=60) else if k=10 then decide (y=62) else if k=1 then decide (y=43) else if k=2 then decide (y=45) else if k=3 then decide (y=42) else if k=4 then decide (y=47) else decide (y=38)
theorem aao (y:UInt8) (t:al) : ∀ k∈wA,(eJ k).isPrefixOf (y :: t)=pS k y (decide (t.head? = some 62)) (decide (t.head? = some 61)):=by
 intro k hk
 have:k=7∨k=9∨k=11∨k=6∨k=8∨k=10∨k=1∨k=2∨k=3∨k=4∨k=5:=by simpa using hk
 rcases this with rfl | rfl | rfl | rfl | rfl | rfl | rfl | rfl | rfl | rfl | rfl
 ·exact F6 y t 60 62
 ·exact F6 y t 60 61
 ·exact F6 y t 62 61
 ·exact gG y t 61
 ·exact gG y t 60
 ·exact gG y t 62
 ·exact gG y t 43
 ·exact gG y t 45
 ·exact gG y t 42
 ·exact gG y t 47
 ·exact gG y t 38
def fS (L:Int) (y:UInt8) (a b:Bool):Prop:=wA.find? (fun k=>decide (dK k=L) && pS k y a b)=if gO y a b≠0∧dK (gO y a b)=L then some (gO y a b) else none
instance (L:Int) (y:UInt8) (a b:Bool):Decidable (fS L y a b):=by unfold fS; infer_instance
theorem ZT (y:UInt8) : ∀ a b:Bool,fS 1 y a b∧fS 2 y a b∧fS 3 y a b∧fS 4 y a b :=
 Dq (p:=fun y => ∀ a b:Bool,fS 1 y a b∧fS 2 y a b∧fS 3 y a b∧fS 4 y a b) (by decide +kernel) y
theorem Xn {L:Int} (hL:L=1∨L=2∨L=3∨L=4) (m:al):wA.find? (Ce L m)=if f0 m≠0∧dK (f0 m)=L then some (f0 m) else none:=by
 cases m with
 | nil =>
  have : ∀ k∈wA,(eJ k).isPrefixOf ([]:al)=false:=by decide
  have h0:f0 ([]:al)=0:=rfl
  rw[h0,if_neg (by simp),List.find?_eq_none]
  intro k hk
  unfold Ce
  rw[this k hk,Bool.and_false]
  decide
 | cons y t =>
  have e:wA.find? (Ce L (y :: t))=wA.find? (fun k=>decide (dK k=L) && pS k y (decide (t.head? = some 62)) (decide (t.head? = some 61))):=H2 fun k hk=>by
   unfold Ce
   rw[aao y t k hk]
  rw[e]
  obtain⟨h1,h2,h3,h4⟩:=ZT y (decide (t.head? = some 62)) (decide (t.head? = some 61))
  rcases hL with rfl | rfl | rfl | rfl
  ·exact h1
  ·exact h2
  ·exact h3
  ·exact h4
theorem ZU {s l:al} {ns:List aa} {L:Int} (hs:s.length≤1000) (hL:L=1∨L=2∨L=3∨L=4) (h:l <:+ s) :
  ∃ l',(l'=l∨l'=bl l)∧FJ L (ba s) (at' s l) false ns=BH s l l' ns (if f0 (bl l)≠0∧dK (f0 (bl l))=L then some (f0 (bl l)) else none):=by
 rw[PK,←Xn hL]
 exact Od hs wA [] l rfl h
theorem Eo {x:aa} {l:al} {b:Bool} {ns:List aa} (hn:ns.length≤60) :
  ∃ i,bg x (ba l) b ns=some ((i,()),((ba l,(if b=false∧ns.length < 60 then ns++[x] else ns),(b || decide (60≤ns.length)),()),()))∧(b=false→ns.length < 60→i=(ns.length:Int)):=by
 rw[IR]
 cases b with
 | true=>exact⟨_,rfl,fun h=>by cases h⟩
 | false =>
  simp only[Bool.false_eq_true,if_false,true_and,Bool.false_or]
  by_cases h:ns.length < 60
  ·have e1:decide ((ns.length:Int)≥60)=false:=decide_eq_false (by omega)
   have e2:decide (60≤ns.length)=false:=decide_eq_false (by omega)
   rw[e1,e2,if_pos h]
   simp only[Bool.not_false,if_true]
   have hl:(ns++[x]).length=ns.length+1:=by simp
   rw[bd (by simp only[List.length_singleton]; omega),wr (by omega) (by omega)]
   exact⟨_,rfl,fun _ _=>by omega⟩
  ·have e1:decide ((ns.length:Int)≥60)=true:=decide_eq_true (by omega)
   have e2:decide (60≤ns.length)=true:=decide_eq_true (by omega)
   rw[e1,e2,if_neg h]
   exact⟨_,rfl,fun _ h'=>absurd h' h⟩
theorem Jg {x:aa} {s:al} {a:Int} {b:Bool} {ns:List aa} (hn:ns.length≤1000) (hx:x.2.2.1.2.2.1.size≤9223372036854775807) :
  cc x (ba s) a b ns=some (((ns.length:Int),()),((ba s,a,(b || decide (60≤ns.length) || !dE x),ns++[x],()),())):=by
 rw[Nh,bd (by simp only[List.length_singleton]; omega)]
 have e:IntKind.i64.wrap (((ns++[x]).length:Int) - 1)=(ns.length:Int):=by
  rw[List.length_append,List.length_singleton,wr (by omega) (by omega)]
  omega
 rw[e,Dk hx]
 simp only[Option.bind_some]
 by_cases h:60≤ns.length
 ·rw[aB (by rw[List.length_append,List.length_singleton]; omega)]
  simp[h]
 ·rw[aA (by rw[List.length_append,List.length_singleton]; omega)]
  cases dE x <;> simp[h]
theorem Jh (c:UInt8) (t:al) : ∀ pre:al,c ∉ pre→Lib.indexByte (pre++c :: t) c=(pre.length:Int)
 | [],_=>by simp[Lib.indexByte]
 | b :: pre,h=>by
  simp only[List.mem_cons,not_or] at h
  have hb : ¬b=c:=fun e=>h.1 e.symm
  have ih:=Jh c t pre h.2
  simp only[List.cons_append,Lib.indexByte,ih]
  have : ¬((pre.length:Int) = -1):=by omega
  simp[hb,this]
theorem Oe (c:UInt8) : ∀ pre:al,c ∉ pre→Lib.indexByte pre c = -1
 | [],_=>rfl
 | b :: pre,h=>by
  simp only[List.mem_cons,not_or] at h
  have hb : ¬b=c:=fun e=>h.1 e.symm
  simp only[Lib.indexByte,Oe c pre h.2]
  simp[hb]
theorem YR {c:UInt8} {pre t:al} (h:c ∉ pre):Lib.cut (pre++c :: t) [c]=(pre,t,true):=by
 unfold Lib.cut
 rw[Lib.index_one,Jh c t pre h,if_pos (by omega)]
 simp only[Int.toNat_natCast,List.length_singleton,Prod.mk.injEq,and_true]
 refine⟨List.take_left' rfl,?_⟩
 have:pre++c :: t=(pre++[c])++t:=by simp
 rw[this,List.drop_left' (by simp)]
theorem Xo {c:UInt8} {s:al} (h:c ∉ s):Lib.cut s [c]=(s,[],false):=by
 unfold Lib.cut
 rw[Lib.index_one,Oe c s h,if_neg (by omega)]
theorem YS {x c:al} (hx:x.length < 4294967281):strings_Cut (ba x) (ba c)=some ((ba (Lib.cut x c).1,ba (Lib.cut x c).2.1,(Lib.cut x c).2.2,()),()):=by
 rw[IT]
 show(if(ba x).size < 4294967281 then some (((⟨(Lib.cut (lb (ba x)) (lb (ba c))).1.toArray⟩:ByteArray),(⟨(Lib.cut (lb (ba x)) (lb (ba c))).2.1.toArray⟩:ByteArray),(Lib.cut (lb (ba x)) (lb (ba c))).2.2,()),()) else none)=_
 rw[if_pos (by rw[aQ]; exact hx),dv,dv]
theorem Gf (c:UInt8) : ∀ s:al,c∈s → ∃ pre t,s=pre++c :: t∧c ∉ pre
 | b :: s,h=>by
  by_cases hb:b=c
  ·exact⟨[],s,by rw[hb]; rfl,by simp⟩
  ·obtain⟨pre,t,h1,h2⟩:=Gf c s (by rcases List.mem_cons.1 h with e | e; exact absurd e.symm hb; exact e)
   exact⟨b :: pre,t,by rw[h1]; rfl,by simp only[List.mem_cons,not_or]; exact⟨Ne.symm hb,h2⟩⟩
def qt:al→Option (al×al)
 | []=>none
 | c :: l=>if c=34 then(match l with
   | []=>some ([],[])
   | d :: l'=>if d=34 then(qt l').map (fun p=>(34 :: p.1,p.2)) else some ([],d :: l'))
  else(qt l).map fun p=>(c :: p.1,p.2)
theorem Gg {c:UInt8} {l:al} (h:c≠34):qt (c :: l)=(qt l).map fun p=>(c :: p.1,p.2):=by
 rw[qt.eq_def]
 simp only[if_neg h]
theorem Of:qt [34]=some ([],[]):=by
 rw[qt.eq_def]
 rfl
theorem Og {l:al}:qt (34 :: 34 :: l)=(qt l).map fun p=>(34 :: p.1,p.2):=by
 rw[qt.eq_def]
 rfl
theorem Ji {d:UInt8} {l:al} (h:d≠34):qt (34 :: d :: l)=some ([],d :: l):=by
 rw[qt.eq_def]
 simp only[if_true,if_neg h]
theorem Oh (l:al) : ∀ pre:al,(34:UInt8) ∉ pre→qt (pre++l)=(qt l).map fun p=>(pre++p.1,p.2)
 | [],_=>by simp
 | b :: pre,h=>by
  simp only[List.mem_cons,not_or] at h
  have hb : ¬b=34:=fun e=>h.1 e.symm
  rw[List.cons_append,Gg hb,Oh l pre h.2,Option.map_map]
  rfl
theorem YT {s:al} (h:(34:UInt8) ∉ s):qt s=none:=by
 have:=Oh [] s h
 rw[List.append_nil] at this
 rw[this]
 rfl
theorem VC : ∀(l t r:al),qt l=some (t,r)→r <:+ l∧t.length≤l.length∧r.length < l.length:=by
 intro l
 induction hn:l.length using Nat.strongRecOn generalizing l with
 | ind n ih =>
  intro t r h
  subst hn
  cases l with
  | nil=>cases h
  | cons c l =>
   by_cases hc:c=34
   ·subst hc
    cases l with
    | nil =>
     rw[Of] at h
     cases h
     exact⟨⟨[34],rfl⟩,by simp,by simp⟩
    | cons d l' =>
     by_cases hd:d=34
     ·subst hd
      rw[Og,Option.map_eq_some_iff] at h
      obtain⟨⟨t',r'⟩,h1,h2⟩:=h
      cases h2
      obtain⟨k1,k2,k3⟩:=ih l'.length (by simp only[List.length_cons]; omega) l' rfl t' r' h1
      refine⟨ak k1 ⟨[34,34],rfl⟩,?_,?_⟩
      ·simp only[List.length_cons]; omega
      ·simp only[List.length_cons]; omega
     ·rw[Ji hd] at h
      cases h
      exact⟨⟨[34],rfl⟩,by simp,by simp⟩
   ·rw[Gg hc,Option.map_eq_some_iff] at h
    obtain⟨⟨t',r'⟩,h1,h2⟩:=h
    cases h2
    obtain⟨k1,k2,k3⟩:=ih l.length (by simp) l rfl t' r' h1
    refine⟨ak k1 ⟨[c],rfl⟩,?_,?_⟩
    ·simp only[List.length_cons]; omega
    ·simp only[List.length_cons]; omega
abbrev nC (v:ab):aa:=(1,0,v,((0,0,()),false,false,()),((0,0,()),false,false,()),([]:(List Int)),())
noncomputable def iQ (out:al) (r:ByteArray) (b:Bool) (ns:List aa):Option (al×al)→Option ((Int×Unit)×(rM×Unit))
 | none=>some ((-1,()),((r,ns,true,()),()))
 | some p=>bQ (2,0,ba (out++p.1),()) (ba p.2) b ns
theorem Ep {F:Option ((Int×Unit)×(rM×Unit))}:(F.bind fun z3=>(some ((z3.1.1,()),(z3.2.1,()))))=F:=by
 cases F with
 | none=>rfl
 | some z=>rfl
theorem gU {F:Option ((Int×Unit)×(lf×Unit))}:(F.bind fun z3=>(some ((z3.1.1,()),(z3.2.1,()))))=F:=by
 cases F with
 | none=>rfl
 | some z=>rfl
theorem Oi {r:ByteArray} {b:Bool} {ns:List aa} : ∀(x out:al),out.length+x.length≤1000→jT (ba out) (ba x) r b ns=iQ out r b ns (qt x):=by
 intro x
 induction hn:x.length using Nat.strongRecOn generalizing x with
 | ind n ih =>
  intro out hl
  rw[Bp,show(⟨#[34]⟩:ByteArray)=ba [34] from rfl,YS (by omega)]
  simp only[Option.bind_some]
  by_cases hm:(34:UInt8)∈x
  ·obtain⟨pre,t,h1,h2⟩:=Gf 34 x hm
   have hx:x.length=pre.length+t.length+1:=by rw[h1]; simp; omega
   rw[h1,YR h2,Oh _ pre h2]
   simp only[Bool.not_true,Bool.false_eq_true,if_false]
   rw[bF (by omega),tD t [34] (by omega)]
   simp only[Option.bind_some,Ep]
   cases t with
   | nil =>
    rw[Of,show([34]:al).isPrefixOf ([]:al)=false from rfl]
    simp[iQ]
   | cons d l' =>
    by_cases hd:d=34
    ·subst hd
     rw[List.length_cons] at hx
     have e1:([34]:al).isPrefixOf (34 :: l')=true:=by rw[gG]; rfl
     rw[e1]
     simp only[Bool.not_true,Bool.false_eq_true,if_false]
     rw[bF (by simp only[List.length_append,List.length_singleton]; omega),show(1:Int)=((1:Nat):Int) from rfl,fR (by simp)]
     simp only[List.drop_succ_cons,List.drop_zero]
     rw[ih l'.length (by omega) l' rfl (out++pre++[34]) (by simp only[List.length_append,List.length_singleton]; omega)]
     rw[Og]
     cases qt l' with
     | none=>rfl
     | some p=>simp[iQ]
    ·have e1:([34]:al).isPrefixOf (d :: l')=false:=by rw[gG]; simp[hd]
     rw[e1]
     simp only[Bool.not_false,if_true]
     rw[Ji hd]
     simp[iQ]
  ·rw[Xo hm,YT hm]
   rfl
theorem H3 {l:al} {b:Bool} {ns:List aa} (hl:l.length≤900):j7 (ba (34 :: l)) b ns=iQ [] (ba (34 :: l)) b ns (qt l):=by
 rw[Ez,show(1:Int)=((1:Nat):Int) from rfl,fR (by simp)]
 exact Oi l [] (by simp; omega)
noncomputable def sQ (acc s:al) (b:Bool) (ns:List aa):Option (al×al)→Option ((Int×Unit)×(lf×Unit))
 | none=>some ((0,()),((ba s,at' s [],true,ns,()),()))
 | some p=>cc (nC (2,0,ba (acc++p.1),())) (ba s) (at' s p.2) b ns
theorem TD {s:al} {b:Bool} {ns:List aa} (hs:s.length≤900) : ∀(l acc:al),l <:+ s→acc.length+l.length≤1000→kW (ba acc) (ba s) (at' s l) b ns=sQ acc s b ns (qt l):=by
 intro l
 induction hn:l.length using Nat.strongRecOn generalizing l with
 | ind n ih =>
  intro acc h ha
  subst hn
  rw[FZ]
  cases l with
  | nil =>
   rw[aA (by rw[aQ]; unfold at'; simp)]
   rfl
  | cons c l =>
   obtain⟨pre,h1,h2⟩:=pi h
   have hl:pre.length+l.length+1=s.length:=by rw[h1]; simp; omega
   rw[List.length_cons] at ha
   have h':l <:+ s:=ak ⟨[c],rfl⟩ h
   have e1:(pre.length:Int)+1=at' s l:=by
    unfold at'
    omega
   rw[h2,aB (by rw[aQ]; omega),la h1,wr (by omega) (by omega)]
   by_cases hc:c=34
   ·subst hc
    have e34:(((34:UInt8).toNat:Int) != 34)=false:=rfl
    rw[e34,e1]
    simp only[Bool.false_eq_true,if_false,gU]
    cases l with
    | nil =>
     rw[Of,aB (by rw[aQ]; unfold at'; simp)]
     simp[sQ]
    | cons d l' =>
     obtain⟨F6,k1,k2⟩:=pi h'
     have hl2:F6.length+l'.length+1=s.length:=by rw[k1]; simp; omega
     rw[List.length_cons] at ha
     have h'':l' <:+ s:=ak ⟨[d],rfl⟩ h'
     have e2:(F6.length:Int)+1=at' s l':=by
      unfold at'
      omega
     rw[k2,aA (by rw[aQ]; omega),la k1]
     by_cases hd:d=34
     ·subst hd
      rw[e34,Og]
      simp only[Bool.false_eq_true,if_false]
      rw[show(⟨#[34]⟩:ByteArray)=ba [34] from rfl,bF (by simp only[List.length_singleton]; omega),wr (by omega) (by omega),e2,ih l'.length (by simp only[List.length_cons]; omega) l' rfl (acc++[34]) h'' (by simp only[List.length_append,List.length_singleton]; omega)]
      cases qt l' with
      | none=>rfl
      | some p=>simp[sQ]
     ·have hd':((d.toNat:Int) != 34)=true:=by
       simp only[bne_iff_ne,ne_eq]
       intro e
       apply hd
       apply UInt8.toNat_inj.1
       show d.toNat=34
       omega
      rw[hd',Ji hd]
      simp only[if_true]
      rw[←k2]
      simp[sQ]
   ·have hc':((c.toNat:Int) != 34)=true:=by
     simp only[bne_iff_ne,ne_eq]
     intro e
     apply hc
     apply UInt8.toNat_inj.1
     show c.toNat=34
     omega
    rw[hc']
    simp only[if_true]
    rw[show(pre.length:Int)+1=((pre.length+1:Nat):Int) by omega,Ap (by omega) (by omega)]
    have e3:(s.take (pre.length+1)).drop pre.length=[c]:=by
     rw[h1,List.take_append,List.drop_append]
     simp
    rw[e3,bF (by simp only[List.length_singleton]; omega),show((pre.length+1:Nat):Int)=at' s l by omega,ih l.length (by simp) l rfl (acc++[c]) h' (by simp only[List.length_append,List.length_singleton]; omega)]
    rw[Gg hc]
    cases qt l with
    | none=>rfl
    | some p=>simp[sQ]
theorem Xp {s l:al} {b:Bool} {ns:List aa} (hs:s.length≤900) (h:l <:+ s):A4 (ba s) (at' s l) b ns=sQ [] s b ns (qt l):=by
 rw[Lp]
 have:=aN h
 exact TD hs l [] h (by simp; omega)
def pN (n:Int):al:=(lb (cY n)).drop 1
abbrev Ay:List Int:=[1,2,3,4,5]
def Az (l:al) (n:Int):Bool:=(pN n).isPrefixOf l
theorem VD {pre ys:List Int} {k:Int} (h:Ay=pre++k :: ys):k=(pre.length:Int)+1∧1≤k∧k≤5∧cY k=ba (35 :: pN k)∧(pN k).length≤10:=by
 have h1:Ay[pre.length]? = some k:=by rw[h]; simp
 have hl:pre.length < 5:=by
  have:(Ay).length=5:=rfl
  have h2:=congrArg List.length h
  simp at h2
  omega
 have : ∀ i:Fin 5,∀ k,Ay[i.val]? = some k→k=(i.val:Int)+1:=by
  intro i k h
  have : ∀ i:Fin 5,Ay[i.val]? = some ((i.val:Int)+1):=by decide
  rw[this i] at h
  exact(Option.some.inj h).symm
 have e:=this ⟨pre.length,hl⟩ k h1
 simp only at e
 have f : ∀ i:Fin 5,cY ((i.val:Int)+1)=ba (35 :: pN ((i.val:Int)+1))∧(pN ((i.val:Int)+1)).length≤10:=by decide +kernel
 have:=f ⟨pre.length,hl⟩
 simp only at this
 rw[←e] at this
 exact⟨e,by omega,by omega,this.1,this.2⟩
theorem KY {deep:Int} {l:al} {b:Bool} {ns:List aa} (hl:l.length≤900) : ∀(ys pre:List Int),Ay=pre++ys→dC deep ((pre.length:Int)+1) (ba (35 :: l)) b ns=match ys.find? (Az l) with
  | some n=>bQ (vE n) (ba (l.drop (pN n).length)) b ns
  | none=>dC deep 6 (ba (35 :: l)) b ns
 | [],pre,h=>by
  have:pre.length=5:=by
   rw[List.append_nil] at h
   rw[←h]
   rfl
  rw[this]
  rfl
 | k :: ys,pre,h=>by
  obtain⟨e1,e2,e3,e4,e5⟩:=VD h
  rw[←e1,tu,aB e3,oG (by omega) e3]
  simp only[Option.bind_some]
  rw[e4,tE _ _ (by rw[List.length_cons]; omega)]
  simp only[Option.bind_some,List.find?_cons]
  have e6:(35 :: pN k:al).isPrefixOf (35 :: l)=Az l k:=by simp[Az]
  rw[e6]
  cases hp:Az l k with
  | true =>
   simp only[if_true,il,Option.bind_some,Ep,List.length_cons,List.drop_succ_cons]
  | false =>
   simp only[Bool.false_eq_true,if_false]
   rw[wr (by omega) (by omega)]
   have:=KY (deep:=deep) (b:=b) (ns:=ns) hl ys (pre++[k]) (az h)
   rw[List.length_append,List.length_singleton] at this
   rw[show k+1=((pre.length+1:Nat):Int)+1 by omega]
   exact this
theorem KZ {s l:al} {b:Bool} {ns:List aa} (hs:s.length≤900) (hl:l <:+ s) : ∀(ys pre:List Int),Ay=pre++ys→jh ((pre.length:Int)+1) (ba s) (at' s l) b ns=match ys.find? (Az l) with
  | some n=>cc (nC (vE n)) (ba s) (at' s (l.drop (pN n).length)) b ns
  | none=>some ((0,()),((ba s,at' s l,true,ns,()),()))
 | [],pre,h=>by
  have:pre.length=5:=by
   rw[List.append_nil] at h
   rw[←h]
   rfl
  rw[this,v8,aA (by decide)]
  rfl
 | k :: ys,pre,h=>by
  obtain⟨e1,e2,e3,e4,e5⟩:=VD h
  obtain⟨q,h1,h2⟩:=pi hl
  have hq:q.length+l.length=s.length:=by rw[h1]; simp
  rw[←e1,v8,aB e3,uU (by omega) e3]
  simp only[Option.bind_some]
  rw[e4,show(1:Int)=((1:Nat):Int) from rfl,fR (by simp)]
  simp only[List.drop_succ_cons,List.drop_zero,aQ,List.find?_cons]
  have ih:=KZ (b:=b) (ns:=ns) hs hl ys (pre++[k]) (az h)
  rw[List.length_append,List.length_singleton,show((pre.length+1:Nat):Int)+1=k+1 by omega] at ih
  have hw:IntKind.i64.wrap (k+((1:Nat):Int))=k+1:=wr (by omega) (by omega)
  rw[hw,h2,wr (by omega) (by omega)]
  by_cases hm:(pN k).length≤l.length
  ·rw[aB (by omega),show(q.length:Int)+((pN k).length:Int)=((q.length+(pN k).length:Nat):Int) by omega,Ap (by omega) (by omega),dF]
   have e:(s.take (q.length+(pN k).length)).drop q.length=l.take (pN k).length:=by
    rw[h1,List.take_append,List.drop_append]
    simp
   have e7:decide (l.take (pN k).length=pN k)=Az l k:=by
    unfold Az
    rw[Bool.eq_iff_iff,decide_eq_true_eq,List.isPrefixOf_iff_prefix,List.prefix_iff_eq_take]
    exact eq_comm
   rw[e,e7]
   cases hp:Az l k with
   | true =>
    simp only[if_true,dA,Option.bind_some,gU]
    congr 1
    unfold at'
    rw[List.length_drop]
    omega
   | false =>
    simp only[Bool.false_eq_true,if_false]
    rw[←h2]
    exact ih
  ·rw[aA (by omega)]
   have hp:Az l k=false:=by
    rw[Bool.eq_false_iff]
    intro hp
    exact hm (En hp)
   rw[hp,←h2]
   exact ih
def gx (k:Int):al:=([[],[83,85,77],[77,73,78],[77,65,88],[67,79,85,78,84],[73,70],[65,78,68],[79,82],[78,79,84],[65,66,83],[76,69,78]]:List al).getD k.toNat []
abbrev ou:List Int:=[1,2,3,4,5,6,7,8,9,10]
theorem VE (k:Fin 11):List.getD ([(⟨#[]⟩:ByteArray),(⟨#[83,85,77]⟩:ByteArray),(⟨#[77,73,78]⟩:ByteArray),(⟨#[77,65,88]⟩:ByteArray),(⟨#[67,79,85,78,84]⟩:ByteArray),(⟨#[73,70]⟩:ByteArray),(⟨#[65,78,68]⟩:ByteArray),(⟨#[79,82]⟩:ByteArray),(⟨#[78,79,84]⟩:ByteArray),(⟨#[65,66,83]⟩:ByteArray),(⟨#[76,69,78]⟩:ByteArray)]:(List ByteArray)) k.val (⟨#[]⟩:ByteArray)=ba (gx (k.val:Int)):=by
 revert k
 decide +kernel
theorem Oj {k:Int} (h0:0≤k) (h1:k≤10):LW k=some ((ba (gx k),()),()):=by
 rw[WU,bC h0 (by show k < 11; omega)]
 have h:=VE ⟨k.toNat,by omega⟩
 simp only[Int.toNat_of_nonneg h0] at h
 rw[h]
theorem H4 {k:Int} (h0:0≤k) (h1:k≤10):Eb k=some ((ba (gx k),()),()):=by
 rw[SU,bC h0 (by show k < 11; omega)]
 have h:=VE ⟨k.toNat,by omega⟩
 simp only[Int.toNat_of_nonneg h0] at h
 rw[h]
theorem VF {pre ys:List Int} {k:Int} (h:ou=pre++k :: ys):k=(pre.length:Int)+1∧1≤k∧k≤10:=by
 have h1:ou[pre.length]? = some k:=by rw[h]; simp
 have hl:pre.length < 10:=by
  have h2:=congrArg List.length h
  simp at h2
  omega
 have : ∀ i:Fin 10,ou[i.val]? = some ((i.val:Int)+1):=by decide
 rw[this ⟨pre.length,hl⟩] at h1
 have e:=(Option.some.inj h1).symm
 simp only at e
 exact⟨e,by omega,by omega⟩
theorem Ol {deep:Int} {w l:al} {b:Bool} {ns:List aa} : ∀(ys pre:List Int),ou=pre++ys→dP deep (ba w) ((pre.length:Int)+1) (ba l) b ns=match ys.find? (fun k=>decide (gx k=w)) with
  | some k=>iH k deep (ba l) b ns
  | none=>some ((-1,()),((ba l,ns,true,()),()))
 | [],pre,h=>by
  have:pre.length=10:=by
   rw[List.append_nil] at h
   rw[←h]
   rfl
  rw[this,rq,aA (by decide)]
  rfl
 | k :: ys,pre,h=>by
  obtain⟨e1,e2,e3⟩:=VF h
  rw[←e1,rq,aB e3,H4 (by omega) e3]
  simp only[Option.bind_some,dF,List.find?_cons,Ep]
  by_cases hp:gx k=w
  ·rw[aB hp.symm]
   simp[hp]
  ·rw[aA (Ne.symm hp),wr (by omega) (by omega)]
   have:=Ol (deep:=deep) (w:=w) (l:=l) (b:=b) (ns:=ns) ys (pre++[k]) (az h)
   rw[List.length_append,List.length_singleton,show((pre.length+1:Nat):Int)+1=k+1 by omega] at this
   rw[this]
   simp[hp]
noncomputable def rZ (w s:al) (a:Int) (b:Bool) (ns:List aa):Option ((Int×Unit)×(lf×Unit)) :=
 if(bB w).2=true∧w≠[] then cc (nC (bB w).1) (ba s) a b ns
 else if(cL w).2=true then cc (2,0,(0,0,(⟨#[]⟩:ByteArray),()),(cL w).1,((0,0,()),false,false,()),([]:(List Int)),()) (ba s) a b ns
 else some ((0,()),((ba s,a,true,ns,()),()))
theorem TE {w s:al} {a:Int} {b:Bool} {ns:List aa} (hw:w.length≤1000):fA (ba w) 11 (ba s) a b ns=rZ w s a b ns:=by
 rw[wa,aA (by decide),oM (by omega),tV (by omega)]
 simp only[Option.bind_some,gU]
 have e0:(ByteArray.toList (ba w) == ByteArray.toList (⟨#[]⟩:ByteArray))=decide (w=[]):=dF (b:=[])
 rw[e0]
 unfold rZ
 cases (bB w).2 <;> by_cases hw0:w=[] <;> cases (cL w).2 <;> simp[hw0]
theorem Om {w s:al} {ns:List aa} (hw:w.length≤1000) (hs:s.length≤900) : ∀(ys pre:List Int) (l:al),ou=pre++ys→l <:+ s → ∃ l',(l'=l∨l'=bl l)∧fA (ba w) ((pre.length:Int)+1) (ba s) (at' s l) false ns=match ys.find? (fun k=>decide (gx k=w) && ([40]:al).isPrefixOf (bl l)) with
  | some k=>A5 k (ba s) (at' s ((bl l).drop 1)) false ns
  | none=>rZ w s (at' s l') false ns
 | [],pre,l,h,hl=>by
  have:pre.length=10:=by
   rw[List.append_nil] at h
   rw[←h]
   rfl
  refine⟨l,.inl rfl,?_⟩
  rw[this]
  exact TE hw
 | k :: ys,pre,l,h,hl=>by
  obtain⟨e1,e2,e3⟩:=VF h
  have ih:=fun l' (hl':l' <:+ s)=>Om (ns:=ns) hw hs ys (pre++[k]) l' (az h) hl'
  rw[List.length_append,List.length_singleton,show((pre.length+1:Nat):Int)+1=k+1 by omega] at ih
  rw[←e1,wa,aB e3,Oj (by omega) e3]
  simp only[Option.bind_some,dF,List.find?_cons,gU]
  by_cases hp:gx k=w
  ·rw[aB hp,show(⟨#[40]⟩:ByteArray)=ba [40] from rfl,iU (by omega) (by decide) hl]
   simp only[Option.bind_some,Bool.not_false,Bool.true_and,hp,decide_true]
   cases hq:([40]:al).isPrefixOf (bl l) with
   | true=>exact⟨l,.inl rfl,rfl⟩
   | false =>
    simp only[Bool.false_eq_true,if_false]
    rw[wr (by omega) (by omega)]
    obtain⟨l',h1,h2⟩:=ih (bl l) (ak (aF l) hl)
    rw[dM] at h1 h2
    refine⟨l',.inr (by simpa using h1),?_⟩
    rw[h2,hq]
  ·rw[aA hp,wr (by omega) (by omega)]
   obtain⟨l',h1,h2⟩:=ih l hl
   refine⟨l',h1,?_⟩
   rw[h2]
   simp[hp]
theorem mF (p:UInt8→Bool) (l:al):(l.takeWhile p).length≤l.length:=(List.takeWhile_prefix p).length_le
abbrev nP (p:cb):aa:=(2,0,(0,0,(⟨#[]⟩:ByteArray),()),p,((0,0,()),false,false,()),([]:(List Int)),())
abbrev nA (p q:cb):aa:=(3,0,(0,0,(⟨#[]⟩:ByteArray),()),p,q,([]:(List Int)),())
noncomputable def iV (deep:Int) (w r:al) (b:Bool) (ns:List aa):Option ((Int×Unit)×(rM×Unit)) :=
 if(bB w).2=true∧((bB w).1.1=1∨(bB w).1.1=3) then bQ (bB w).1 (ba r) b ns
 else if(cL w).2=true then bg (nP (cL w).1) (ba r) b ns
 else match ou.find? (fun k=>decide (gx k=w)) with
  | some k=>iH k deep (ba r) b ns
  | none=>some ((-1,()),((ba r,ns,true,()),()))
theorem jA {F:Option ((Int×Unit)×(rM×Unit))}:(F.bind fun z3=>(some ((z3.1.1,()),(z3.2.1,()))))=F:=Ep
theorem VG {deep:Int} {w l:al} {b:Bool} {ns:List aa}:dP deep (ba w) 1 (ba l) b ns=match ou.find? (fun k=>decide (gx k=w)) with
  | some k=>iH k deep (ba l) b ns
  | none=>some ((-1,()),((ba l,ns,true,()),())):=Ol ou [] rfl
theorem aap {deep:Int} {l:al} {b:Bool} {ns:List aa} (hl:l.length≤900):dC deep 6 (ba l) b ns=iV deep ((bl l).takeWhile bh) ((bl l).dropWhile bh) b ns:=by
 have h1:=aN (aF l)
 have h2:((bl l).takeWhile bh).length≤(bl l).length:=mF bh (bl l)
 rw[tu,aA (by decide),BG (by omega)]
 simp only[Option.bind_some]
 rw[oO (by omega),oL (by omega)]
 simp only[Option.bind_some,jA,VG]
 unfold iV
 cases (bB ((bl l).takeWhile bh)).2 with
 | false=>simp
 | true =>
  by_cases k1:(bB ((bl l).takeWhile bh)).1.1=1
  ·simp[k1]
  ·by_cases k3:(bB ((bl l).takeWhile bh)).1.1=3
   ·simp[k3]
   ·simp[k1,k3]
theorem Oo {deep:Int} {l:al} {b:Bool} {ns:List aa} (hl:l.length≤900):qC deep (ba l) b ns =
  if(bl l).head? = some 34 then j7 (ba (bl l)) b ns
  else if(bl l).head? = some 35 then dC deep 1 (ba (bl l)) b ns
  else if(bl l).head? = some 40 then((bL 1 (IntKind.i64.wrap (deep+1)) (ba ((bl l).drop 1)) b ns).bind fun z6=>(if z6.2.1.2.2.1=true then(some ((z6.1.1,()),((z6.2.1.1,z6.2.1.2.1,true,()),()))) else((bJ (⟨#[41]⟩:ByteArray) z6.2.1.1 z6.2.1.2.2.1 z6.2.1.2.1).bind fun z7=>(some ((z6.1.1,()),((z7.2.1.1,z7.2.1.2.1,(!z7.1.1),()),()))))))
  else iV deep ((bl l).takeWhile bh) ((bl l).dropWhile bh) b ns:=by
 have h1:=aN (aF l)
 have h2:((bl l).takeWhile bh).length≤(bl l).length:=mF bh (bl l)
 rw[Ht,ri]
 simp only[Option.bind_some]
 rw[show(⟨#[34]⟩:ByteArray)=ba [34] from rfl,tD _ _ (by omega),show(⟨#[35]⟩:ByteArray)=ba [35] from rfl,tD _ _ (by omega),show(⟨#[40]⟩:ByteArray)=ba [40] from rfl,ef (by omega)]
 simp only[Option.bind_some,jA,F5,dM,ot (c:=40) (.inr (.inl rfl)),decide_eq_true_eq,List.length_singleton]
 by_cases c1:(bl l).head? = some 34
 ·rw[if_pos c1,if_pos c1]
 ·rw[if_neg c1,if_neg c1]
  by_cases c2:(bl l).head? = some 35
  ·rw[if_pos c2,if_pos c2]
  ·rw[if_neg c2,if_neg c2]
   by_cases c3:(bl l).head? = some 40
   ·rw[if_pos c3,if_pos c3,if_pos c3]
   ·rw[if_neg c3,if_neg c3,if_neg c3,BG (by omega),dM]
    simp only[Option.bind_some]
    rw[oO (by omega),oL (by omega)]
    simp only[Option.bind_some,jA,VG]
    unfold iV
    cases (bB ((bl l).takeWhile bh)).2 with
    | false=>simp
    | true =>
     by_cases k1:(bB ((bl l).takeWhile bh)).1.1=1
     ·simp[k1]
     ·by_cases k3:(bB ((bl l).takeWhile bh)).1.1=3
      ·simp[k3]
      ·simp[k1,k3]
def K0 (m:al):Bool:=(cL (m.takeWhile bh)).2 && decide ((bl (m.dropWhile bh)).head? = some 58)
def ku (m:al):al:=bl ((bl (m.dropWhile bh)).drop 1)
theorem Oq {l:al} {b:Bool} {ns:List aa} (hl:l.length≤900):kG (ba l) b ns =
  if K0 (bl l)=true then some ((nA (cL ((bl l).takeWhile bh)).1 (cL ((ku (bl l)).takeWhile bh)).1,true,()),((ba ((ku (bl l)).dropWhile bh),ns,(b || !(cL ((ku (bl l)).takeWhile bh)).2),()),()))
  else some (((0,0,(0,0,(⟨#[]⟩:ByteArray),()),((0,0,()),false,false,()),((0,0,()),false,false,()),([]:(List Int)),()),false,()),((ba l,ns,b,()),())):=by
 have h1:=aN (aF l)
 have h2:((bl l).takeWhile bh).length≤(bl l).length:=mF bh (bl l)
 have h3:=KS bh (bl l)
 have h4:=aN (aF ((bl l).dropWhile bh))
 have h5:((bl ((bl l).dropWhile bh)).drop 1).length≤(bl ((bl l).dropWhile bh)).length:=aN (fZ 1 _)
 have h6:=aN (aF ((bl ((bl l).dropWhile bh)).drop 1))
 have h7:((ku (bl l)).takeWhile bh).length≤(ku (bl l)).length:=mF bh _
 have h8:(ku (bl l)).length≤((bl ((bl l).dropWhile bh)).drop 1).length:=h6
 rw[Cm,BG (by omega)]
 simp only[Option.bind_some]
 rw[oL (by omega)]
 simp only[Option.bind_some]
 unfold K0
 cases hp:(cL ((bl l).takeWhile bh)).2 with
 | false=>simp
 | true =>
  simp only[if_true,Bool.true_and]
  rw[show(⟨#[58]⟩:ByteArray)=ba [58] from rfl,ef (by omega)]
  simp only[Option.bind_some,ot (c:=58) (.inr (.inr (.inr (.inr rfl)))),List.length_singleton]
  by_cases hc:(bl ((bl l).dropWhile bh)).head? = some 58
  ·simp only[hc,decide_true,Bool.not_true,Bool.false_eq_true,if_false,if_true]
   rw[BG (by omega)]
   simp only[Option.bind_some]
   rw[show bl ((bl ((bl l).dropWhile bh)).drop 1)=ku (bl l) from rfl,oL (by omega)]
   simp only[Option.bind_some]
   cases b <;> simp
  ·simp only[hc,decide_false,Bool.not_false,if_true,Bool.false_eq_true,if_false]
abbrev RI:=Option ((Int×Unit)×(rM×Unit))
def xW (x:aa):Bool:=decide (x.2.2.1.2.2.1.size≤100000) && decide (x.2.2.2.2.2.1.length≤100000)
def sm (ns:List aa):Bool:=ns.all xW
def gV (l:al) (b:Bool) (ns:List aa) (F:RI):Prop :=
 ∃(i:Int) (l':al) (b':Bool) (ns':List aa),F=some ((i,()),((ba l',ns',b',()),()))∧l' <:+ l∧(b=true→b'=true)∧ns <+: ns'∧ns'.length≤60∧(sm ns=true→sm ns'=true)
theorem gV.mono {l l0:al} {b b0:Bool} {ns ns0:List aa} {F:RI} (h:gV l b ns F) (h1:l <:+ l0) (h2:b0=true→b=true) (h3:ns0 <+: ns) (h4:sm ns0=true→sm ns=true:=by exact id):gV l0 b0 ns0 F:=by
 obtain⟨i,l',b',ns',e,k1,k2,k3,k4,k5⟩:=h
 exact⟨i,l',b',ns',e,ak k1 h1,fun h=>k2 (h2 h),List.IsPrefix.trans h3 k3,k4,fun h=>k5 (h4 h)⟩
theorem pj (l:al):l <:+ l:=List.suffix_refl l
theorem eW {x:aa} {l:al} {b:Bool} {ns:List aa} (hn:ns.length≤60) (hx:xW x=true:=by rfl):gV l b ns (bg x (ba l) b ns):=by
 obtain⟨i,h,_⟩:=Eo (x:=x) (l:=l) (b:=b) hn
 refine⟨i,l,_,_,h,pj l,(fun hb=>by rw[hb]; rfl),?_,?_,?_⟩
 ·split
  ·exact⟨[x],rfl⟩
  ·exact List.prefix_refl _
 ·split
  ·rename_i h
   rw[List.length_append,List.length_singleton]
   omega
  ·exact hn
 ·intro hs
  split
  ·unfold sm at hs ⊢
   rw[List.all_append,hs]
   simp[hx]
  ·exact hs
theorem Rm {v:ab} (h:v.2.2.1.size≤100000):xW (nC v)=true:=by
 unfold xW
 rw[decide_eq_true h]
 rfl
theorem H5 {op:Int} {y:List Int} (h:y.length≤100000):xW (6,op,(0,0,(⟨#[]⟩:ByteArray),()),((0,0,()),false,false,()),((0,0,()),false,false,()),y,())=true:=by
 unfold xW
 rw[Bool.and_eq_true]
 exact⟨rfl,decide_eq_true h⟩
theorem pO {v:ab} {r:ByteArray} {b:Bool} {ns:List aa}:bQ v r b ns=bg (nC v) r b ns:=by
 rw[Ck]
 exact jA
theorem AA {i:Int} {l:al} {b:Bool} {ns:List aa} (hn:ns.length≤60):gV l b ns (some ((i,()),((ba l,ns,true,()),()))) :=
 ⟨i,l,true,ns,rfl,pj l,fun _=>rfl,List.prefix_refl _,hn,id⟩
theorem kv {l:al} {c:UInt8} (h:l.head? = some c) : ∃ t,l=c :: t:=by
 cases l with
 | nil=>cases h
 | cons y t =>
  simp only[List.head?_cons,Option.some.injEq] at h
  exact⟨t,by rw[h]⟩
theorem pk {l:al} {c:UInt8} (h:(bl l).head? = some c):((bl l).drop 1).length < l.length:=by
 have:=aN (aF l)
 obtain⟨t,ht⟩:=kv h
 rw[ht] at this ⊢
 simp only[List.length_cons,List.drop_succ_cons,List.drop_zero] at this ⊢
 omega
theorem im (l:al):(bl l).drop 1 <:+ l:=ak (fZ 1 _) (aF l)
theorem Ot (l:al):(bl l).dropWhile bh <:+ l:=ak (List.dropWhile_suffix _) (aF l)
theorem Jj (l:al):(ku (bl l)).dropWhile bh <:+ l :=
 ak (List.dropWhile_suffix _) (ak (aF _) (ak (fZ 1 _) (ak (aF _) (Ot l))))
section
variable {n:Nat} (HB : ∀ l:al,l.length < n → ∀(deep least:Int) (b:Bool) (ns:List aa),0≤deep→deep+(l.length:Int)≤400→ns.length≤60→gV l b ns (bL least deep (ba l) b ns))
include HB
theorem K1 : ∀(m:Nat) (l:al) (op deep:Int) (b:Bool) (kids:List Int) (ns:List aa),l.length=m→l.length < n→0≤deep→deep+1+(l.length:Int)≤400→kids.length+l.length≤10000→ns.length≤60→gV l b ns (cC op deep (ba l) b kids ns):=by
 intro m
 induction m using Nat.strongRecOn with
 | ind m ih =>
  intro l op deep b kids ns hm hln hd0 hd hk hn
  subst hm
  rw[lx]
  cases b with
  | true =>
   simp only[Bool.not_true,Bool.false_eq_true,if_false,jA]
   exact eW hn (H5 (by omega))
  | false =>
   have tail : ∀(l2:al) (b2:Bool) (ns2:List aa) (y:List Int),l2 <:+ l→ns <+: ns2→ns2.length≤60→y.length=kids.length+1→(sm ns=true→sm ns2=true) →
     gV l false ns ((bJ (⟨#[44]⟩:ByteArray) (ba l2) b2 ns2).bind fun z3=>(if(!z3.1.1)=true then(if z3.2.1.2.2.1=true then((bg (6,op,(0,0,(⟨#[]⟩:ByteArray),()),((0,0,()),false,false,()),((0,0,()),false,false,()),y,()) z3.2.1.1 true z3.2.1.2.1).bind fun z4=>(some ((z4.1.1,()),(z4.2.1,())))) else((bJ (⟨#[41]⟩:ByteArray) z3.2.1.1 z3.2.1.2.2.1 z3.2.1.2.1).bind fun z5=>((bg (6,op,(0,0,(⟨#[]⟩:ByteArray),()),((0,0,()),false,false,()),((0,0,()),false,false,()),y,()) z5.2.1.1 (!z5.1.1) z5.2.1.2.1).bind fun z6=>(some ((z6.1.1,()),(z6.2.1,())))))) else(cC op deep z3.2.1.1 z3.2.1.2.2.1 y z3.2.1.2.1))):=by
    intro l2 b2 ns2 y hs hp hn2 hy hsm
    have hl2:=aN hs
    rw[show(⟨#[44]⟩:ByteArray)=ba [44] from rfl,ef (by omega)]
    simp only[Option.bind_some,ot (c:=44) (.inr (.inr (.inr (.inl rfl)))),jA,List.length_singleton]
    by_cases hc:(bl l2).head? = some 44
    ·have hlt:=pk hc
     simp only[hc,decide_true,Bool.not_true,Bool.false_eq_true,if_false,if_true]
     exact(ih _ (by omega) _ op deep b2 y ns2 rfl (by omega) hd0 (by omega) (by omega) hn2).mono (ak (im l2) hs) (fun h=>by cases h) hp hsm
    ·simp only[hc,decide_false,Bool.not_false,if_true,if_false]
     have hbl:=aN (aF l2)
     cases b2 with
     | true =>
      simp only[if_true]
      exact(eW hn2 (H5 (by omega))).mono (ak (aF l2) hs) (fun h=>by cases h) hp hsm
     | false =>
      simp only[Bool.false_eq_true,if_false]
      rw[show(⟨#[41]⟩:ByteArray)=ba [41] from rfl,ef (by omega)]
      simp only[Option.bind_some,jA]
      refine(eW hn2 (H5 (by omega))).mono ?_ (fun h=>by cases h) hp hsm
      split
      ·exact ak (ak (fZ _ _) (aF _)) (ak (aF l2) hs)
      ·exact ak (aF _) (ak (aF l2) hs)
   simp only[Bool.not_false,if_true]
   rw[Oq (by omega)]
   by_cases ha:K0 (bl l)=true
   ·rw[if_pos ha]
    simp only[Option.bind_some,if_true]
    obtain⟨i2,l2,b2,ns2,h2,k1,k2,k3,k4,k5⟩:=eW (x:=nA (cL ((bl l).takeWhile bh)).1 (cL ((ku (bl l)).takeWhile bh)).1) (l:=(ku (bl l)).dropWhile bh) (b:=(false || !(cL ((ku (bl l)).takeWhile bh)).2)) hn
    rw[h2]
    simp only[Option.bind_some]
    rw[bd (by simp only[List.length_singleton]; omega)]
    exact tail _ _ _ _ (ak k1 (Jj l)) k3 k4 (by simp) k5
   ·rw[if_neg ha]
    simp only[Option.bind_some,Bool.false_eq_true,if_false]
    rw[wr (by omega) (by omega)]
    obtain⟨i2,l2,b2,ns2,h2,k1,k2,k3,k4,k5⟩:=HB l hln (deep+1) 1 false ns (by omega) hd hn
    rw[h2]
    simp only[Option.bind_some]
    rw[bd (by simp only[List.length_singleton]; omega)]
    exact tail _ _ _ _ k1 k3 k4 (by simp) k5
theorem Xq {l:al} {op deep:Int} {b:Bool} {ns:List aa} (hln:l.length < n) (hd0:0≤deep) (hd:deep+1+(l.length:Int)≤400) (hn:ns.length≤60):gV l b ns (iH op deep (ba l) b ns):=by
 rw[xu]
 cases b with
 | true =>
  rw[if_pos rfl,De]
  simp only[Bool.not_true,Bool.false_eq_true,if_false,jA]
  exact eW hn (H5 (by simp))
 | false =>
  rw[if_neg (by decide),show(⟨#[40]⟩:ByteArray)=ba [40] from rfl,ef (by omega)]
  simp only[Option.bind_some]
  have hs:(if sg (bl l)=[40] then(bl l).drop ([40]:al).length else bl l) <:+ l:=by
   split
   ·exact im l
   ·exact aF l
  have:=aN hs
  exact(K1 HB _ _ op deep _ [] ns rfl (by omega) hd0 (by omega) (by simp only[List.length_nil]; omega) hn).mono hs (fun h=>by cases h) (List.prefix_refl _)
theorem Xr {deep:Int} {w r:al} {b:Bool} {ns:List aa} (hln:ou.find? (fun k=>decide (gx k=w))≠none→r.length < n∧deep+1+(r.length:Int)≤400) (hd0:0≤deep) (hn:ns.length≤60):gV r b ns (iV deep w r b ns):=by
 unfold iV
 split
 ·rename_i hc
  rw[pO]
  exact eW hn (Rm (Nat.le_trans (dD (ph hc.1).1) (by decide)))
 ·split
  ·exact eW hn
  ·cases hf:ou.find? (fun k=>decide (gx k=w)) with
   | some k =>
    obtain⟨h1,h2⟩:=hln (by rw[hf]; simp)
    exact Xq HB h1 hd0 h2 hn
   | none=>exact AA hn
end
theorem Rn {w:al} (h:ou.find? (fun k=>decide (gx k=w))≠none) : ∃ k,ou.find? (fun k=>decide (gx k=w))=some k∧gx k=w∧k∈ou∧w≠[]:=by
 cases hf:ou.find? (fun k=>decide (gx k=w)) with
 | none=>exact absurd hf h
 | some k =>
  have h1:=List.find?_some hf
  have h2:=List.mem_of_find?_eq_some hf
  have h3:gx k=w:=by simpa using h1
  refine⟨k,rfl,h3,h2,?_⟩
  have : ∀ k∈ou,gx k≠[]:=by decide
  rw[←h3]
  exact this k h2
theorem Ro {l:al} (h:(bl l).takeWhile bh≠[]):((bl l).dropWhile bh).length < l.length:=by
 have h1:=aN (aF l)
 have h2:=congrArg List.length (List.takeWhile_append_dropWhile (p:=bh) (l:=bl l))
 rw[List.length_append] at h2
 have h3:=List.length_pos_iff.2 h
 omega
theorem TF {l:al} {b:Bool} {ns:List aa} (hl:l.length≤900) (hn:ns.length≤60):gV (34 :: l) b ns (j7 (ba (34 :: l)) b ns):=by
 rw[H3 hl]
 cases hq:qt l with
 | none=>exact AA hn
 | some p =>
  obtain⟨h1,h2,_⟩:=VC l p.1 p.2 hq
  show gV _ b ns (bQ _ _ b ns)
  rw[pO]
  refine(eW hn (Rm ?_)).mono (ak h1 ⟨[34],rfl⟩) id (List.prefix_refl _)
  show(ba ([]++p.1)).size≤_
  rw[aQ]
  simp only[List.nil_append]
  omega
theorem K2 (l:al):(bl (35 :: l)).takeWhile bh=[]∧(bl (35 :: l)).dropWhile bh=35 :: l:=by
 have h1:bl (35 :: l)=35 :: l:=List.dropWhile_cons_of_neg (by decide)
 rw[h1]
 exact⟨List.takeWhile_cons_of_neg (by decide),List.dropWhile_cons_of_neg (by decide)⟩
theorem Rp {deep:Int} {l:al} {b:Bool} {ns:List aa} (hl:l.length≤800):dC deep 1 (ba (35 :: l)) b ns=match Ay.find? (Az l) with
  | some n=>bQ (vE n) (ba (l.drop (pN n).length)) b ns
  | none=>some ((-1,()),((ba (35 :: l),ns,true,()),())):=by
 have h:=KY (deep:=deep) (l:=l) (b:=b) (ns:=ns) (by omega) Ay [] rfl
 have h:dC deep 1 (ba (35 :: l)) b ns=_:=h
 rw[h]
 cases Ay.find? (Az l) with
 | some n=>rfl
 | none =>
  simp only
  rw[aap (by rw[List.length_cons]; omega),(K2 l).1,(K2 l).2]
  have e1 : ¬((bB []).2=true∧((bB []).1.1=1∨(bB []).1.1=3)):=by decide +kernel
  have e2 : ¬(cL []).2=true:=by decide +kernel
  have e3:ou.find? (fun k=>decide (gx k=[]))=none:=by decide +kernel
  unfold iV
  rw[if_neg e1,if_neg e2,e3]
theorem Xs {l:al} (HB : ∀ l':al,l'.length < l.length → ∀(deep least:Int) (b:Bool) (ns:List aa),0≤deep→deep+(l'.length:Int)≤400→ns.length≤60→gV l' b ns (bL least deep (ba l') b ns))
  {deep:Int} {b:Bool} {ns:List aa} (hd0:0≤deep) (hd:deep+(l.length:Int)≤400) (hn:ns.length≤60):gV l b ns (qC deep (ba l) b ns):=by
 have hbl:=aN (aF l)
 rw[Oo (by omega)]
 by_cases c1:(bl l).head? = some 34
 ·rw[if_pos c1]
  obtain⟨t,ht⟩:=kv c1
  have htl:t.length+1=(bl l).length:=by rw[ht]; simp
  rw[ht]
  exact(TF (by omega) hn).mono (by rw[←ht]; exact aF l) id (List.prefix_refl _)
 ·rw[if_neg c1]
  by_cases c2:(bl l).head? = some 35
  ·rw[if_pos c2]
   obtain⟨t,ht⟩:=kv c2
   have htl:t.length+1=(bl l).length:=by rw[ht]; simp
   have hts:t <:+ l:=ak ⟨[35],by rw[ht]; rfl⟩ (aF l)
   rw[ht,Rp (by omega)]
   cases Ay.find? (Az t) with
   | some n =>
    simp only
    rw[pO]
    exact(eW hn (Rm (by show eS.size≤_; decide))).mono (ak (fZ _ _) hts) id (List.prefix_refl _)
   | none=>exact(AA hn).mono (by rw[←ht]; exact aF l) id (List.prefix_refl _)
  ·rw[if_neg c2]
   by_cases c3:(bl l).head? = some 40
   ·rw[if_pos c3]
    have hlt:=pk c3
    rw[wr (by omega) (by omega)]
    obtain⟨i2,l2,b2,ns2,h2,k1,k2,k3,k4,k5⟩:=HB _ hlt (deep+1) 1 b ns (by omega) (by omega) hn
    rw[h2]
    simp only[Option.bind_some]
    have hl2:=aN k1
    have hs2:l2 <:+ l:=ak k1 (im l)
    cases b2 with
    | true =>
     simp only[if_true]
     exact⟨i2,l2,true,ns2,rfl,hs2,fun _=>rfl,k3,k4,k5⟩
    | false =>
     simp only[Bool.false_eq_true,if_false]
     rw[show(⟨#[41]⟩:ByteArray)=ba [41] from rfl,ef (by omega)]
     simp only[Option.bind_some]
     refine⟨i2,_,_,ns2,rfl,?_,(fun h=>by have:=k2 h; cases this),k3,k4,k5⟩
     split
     ·exact ak (ak (fZ _ _) (aF _)) hs2
     ·exact ak (aF _) hs2
   ·rw[if_neg c3]
    refine(Xr HB (fun h => ?_) hd0 hn).mono (Ot l) id (List.prefix_refl _)
    obtain⟨k,_,_,_,hw⟩:=Rn h
    have:=Ro hw
    omega
theorem VH : ∀(m:Nat) (l:al),l.length=m→(∀ l':al,l'.length < l.length → ∀(deep least:Int) (b:Bool) (ns:List aa),0≤deep→deep+(l'.length:Int)≤400→ns.length≤60→gV l' b ns (bL least deep (ba l') b ns)) →
  ∀(deep:Int) (b:Bool) (ns:List aa),0≤deep→deep+(l.length:Int)≤400→ns.length≤60→gV l b ns (kU deep (ba l) b ns):=by
 intro m
 induction m using Nat.strongRecOn with
 | ind m ih =>
  intro l hm HB deep b ns hd0 hd hn
  subst hm
  rw[vZ,aA (by omega)]
  cases b with
  | true =>
   simp only[if_true]
   exact AA hn
  | false =>
   simp only[Bool.false_eq_true,if_false,jA]
   rw[show(⟨#[45]⟩:ByteArray)=ba [45] from rfl,ef (by omega)]
   simp only[Option.bind_some,ot (c:=45) (.inl rfl),List.length_singleton]
   have hbl:=aN (aF l)
   by_cases hc:(bl l).head? = some 45
   ·have hlt:=pk hc
    simp only[hc,decide_true,if_true]
    rw[wr (by omega) (by omega)]
    obtain⟨i2,l2,b2,ns2,h2,k1,k2,k3,k4,k5⟩:=ih _ hlt _ rfl (fun l' h'=>HB l' (by omega)) (deep+1) false ns (by omega) (by omega) hn
    rw[h2]
    simp only[Option.bind_some]
    exact(eW k4).mono (ak k1 (im l)) (fun h=>by cases h) k3 k5
   ·simp only[hc,decide_false,Bool.false_eq_true,if_false]
    exact(Xs (l:=bl l) (fun l' h'=>HB l' (by omega)) hd0 (by omega) hn).mono (aF l) id (List.prefix_refl _)
theorem Jk {least deep left:Int} {op:Int} {l:al} {ns:List aa} (ho:0≤op) (ho2:op≤11) (hl:l.length≤900) (hs:op≠0→sg (bl l)=eJ op):cr least deep left op 12 (ba l) false ns =
  if op=0∨dK op < least then some ((left,()),((ba l,ns,false,()),()))
  else((bL (dK op+1) deep (ba ((bl l).drop (eJ op).length)) false ns).bind fun z7=>((bg (5,op,(0,0,(⟨#[]⟩:ByteArray),()),((0,0,()),false,false,()),((0,0,()),false,false,()),([left,z7.1.1]:(List Int)),()) z7.2.1.1 z7.2.1.2.2.1 z7.2.1.2.1).bind fun z8=>(fw least deep z8.1.1 z8.2.1.1 z8.2.1.2.2.1 z8.2.1.2.1))):=by
 rw[q7,aA (by decide)]
 by_cases h0:op=0
 ·rw[if_pos (by rw[h0]; rfl),if_pos (.inl h0)]
 ·have h0' : ¬(op == 0)=true:=by simpa using h0
  have hlv:1≤dK op∧dK op≤4:=by
   unfold dK
   repeat' split
   all_goals omega
  rw[if_neg h0',KW (by omega) ho2]
  simp only[Option.bind_some]
  by_cases h1:dK op < least
  ·rw[aB h1,if_pos (.inr h1)]
  ·rw[aA h1,if_neg (by omega),BE ho ho2]
   simp only[Option.bind_some]
   rw[ef (by omega),hs h0]
   simp only[Option.bind_some,if_true]
   rw[wr (by omega) (by omega)]
theorem Ou {l:al} (h:f0 (bl l)≠0):((bl l).drop (eJ (f0 (bl l))).length).length < l.length:=by
 have h1:=aN (aF l)
 have h2:=BD h
 have h3:=En (Oa (bl l))
 have h4:1≤(eJ (f0 (bl l))).length:=by
  have:=tF (bl l)
  have h5 : ∀ k:Fin 12,k.val≠0→1≤(eJ (k.val:Int)).length:=by decide
  have:=h5 ⟨(f0 (bl l)).toNat,by omega⟩ (by simp only; omega)
  simp only[Int.toNat_of_nonneg (tF (bl l)).1] at this
  exact this
 rw[h2] at h3
 rw[List.length_drop]
 omega
theorem BI : ∀(m:Nat) (l:al),l.length=m→(∀ l':al,l'.length < l.length → ∀(deep least:Int) (b:Bool) (ns:List aa),0≤deep→deep+(l'.length:Int)≤400→ns.length≤60→gV l' b ns (bL least deep (ba l') b ns)) →
  ∀(least deep left:Int) (b:Bool) (ns:List aa),0≤deep→deep+(l.length:Int)≤400→ns.length≤60→gV l b ns (fw least deep left (ba l) b ns):=by
 intro m
 induction m using Nat.strongRecOn with
 | ind m ih =>
  intro l hm HB least deep left b ns hd0 hd hn
  subst hm
  rw[kK]
  cases b with
  | true=>exact AA hn
  | false =>
   simp only[Bool.not_false,if_true]
   have hbl:=aN (aF l)
   obtain⟨o1,o2⟩:=tF (bl l)
   rw[Gd (by omega),Jk o1 o2 (by omega) (fun h=>by rw[dM]; exact BD h),dM]
   split
   ·exact⟨left,bl l,false,ns,rfl,aF l,fun h=>h,List.prefix_refl _,hn,id⟩
   ·rename_i hop
    have hop':f0 (bl l)≠0:=fun e=>hop (.inl e)
    have hlt:=Ou hop'
    obtain⟨i2,l2,b2,ns2,h2,k1,k2,k3,k4,k5⟩:=HB _ hlt deep (dK (f0 (bl l))+1) false ns hd0 (by omega) hn
    rw[h2]
    simp only[Option.bind_some]
    obtain⟨i3,l3,b3,ns3,h3,j1,j2,j3,j4,j5⟩:=eW (x:=(5,f0 (bl l),(0,0,(⟨#[]⟩:ByteArray),()),((0,0,()),false,false,()),((0,0,()),false,false,()),([left,i2]:(List Int)),())) (l:=l2) (b:=b2) k4
    rw[h3]
    simp only[Option.bind_some]
    have hs2:=aN k1
    have hs3:=aN j1
    exact(ih _ (by omega) l3 rfl (fun l' h'=>HB l' (by omega)) least deep i3 b3 ns3 hd0 (by omega) j4).mono (ak j1 (ak k1 (ak (fZ _ _) (aF l)))) (fun h=>by cases h) (List.IsPrefix.trans k3 j3) (fun h=>j5 (k5 h))
theorem TG : ∀(m:Nat) (l:al),l.length=m → ∀(deep least:Int) (b:Bool) (ns:List aa),0≤deep→deep+(l.length:Int)≤400→ns.length≤60→gV l b ns (bL least deep (ba l) b ns):=by
 intro m
 induction m using Nat.strongRecOn with
 | ind m ih =>
  intro l hm deep least b ns hd0 hd hn
  subst hm
  have HB : ∀ l':al,l'.length < l.length → ∀(deep least:Int) (b:Bool) (ns:List aa),0≤deep→deep+(l'.length:Int)≤400→ns.length≤60→gV l' b ns (bL least deep (ba l') b ns) :=
   fun l' h' deep least b ns d0 d1 hn=>ih _ h' l' rfl deep least b ns d0 d1 hn
  rw[uc]
  obtain⟨i2,l2,b2,ns2,h2,k1,k2,k3,k4,k5⟩:=VH _ l rfl HB deep b ns hd0 hd hn
  rw[h2]
  simp only[Option.bind_some]
  have hs2:=aN k1
  exact(BI _ l2 rfl (fun l' h'=>HB l' (by omega)) least deep i2 b2 ns2 hd0 (by omega) k4).mono k1 k2 k3 k5
abbrev RS:=Option ((Int×Unit)×(lf×Unit))
def dw (ns:List aa):Bool:=ns.all dE
theorem VI {ns ns':List aa} (h:ns <+: ns') (k:dw ns=false):dw ns'=false:=by
 obtain⟨r,rfl⟩:=h
 unfold dw at k ⊢
 rw[List.all_append,k]
 rfl
def Dm (b:Bool) (ns:List aa):Prop:=(b=true∨dw ns=false)∧sm ns=true
theorem VJ {x:aa} (h:dE x=true):xW x=true:=by
 have:x.2.2.1.2.2.1.size≤100000∧x.2.2.2.2.2.1.length≤100000:=by
  unfold dE kl at h
  split at h
  ·simp only[Bool.and_eq_true,decide_eq_true_eq] at h
   have:=dD h.1.1.2
   omega
  ·split at h
   ·simp only[Bool.and_eq_true,decide_eq_true_eq] at h
    rw[h.1.1.1.2]
    exact⟨by decide,by omega⟩
   ·split at h
    ·simp only[Bool.and_eq_true,decide_eq_true_eq] at h
     rw[h.1.1.2]
     exact⟨by decide,by omega⟩
    ·split at h
     ·simp only[Bool.and_eq_true,decide_eq_true_eq] at h
      rw[h.1.1.1.2]
      exact⟨by decide,by omega⟩
     ·split at h
      ·simp only[Bool.and_eq_true,decide_eq_true_eq] at h
       rw[h.1.1.1.2]
       exact⟨by decide,by omega⟩
      ·split at h
       ·simp only[Bool.and_eq_true,decide_eq_true_eq] at h
        rw[h.1.1.2]
        refine⟨by decide,?_⟩
        have h2:=h.1.1.1
        unfold oq at h2
        split at h2
        ·simp only[Bool.or_eq_true,decide_eq_true_eq] at h2
         omega
        ·split at h2
         ·have:=bw.1 h2
          omega
         ·split at h2
          ·simp only[decide_eq_true_eq] at h2
           omega
          ·cases h2
       ·cases h
 unfold xW
 rw[decide_eq_true this.1,decide_eq_true this.2]
 rfl
theorem wB {ns:List aa} (h:dw ns=true):sm ns=true:=by
 unfold dw at h
 unfold sm
 rw[List.all_eq_true] at h ⊢
 exact fun x hx=>VJ (h x hx)
theorem H6 {ns:List aa} (h:dw ns=true):Dm true ns:=⟨.inl rfl,wB h⟩
theorem gV.dm {l:al} {b:Bool} {ns:List aa} {F:RI} (h:gV l b ns F) (hd:Dm b ns) : ∃(i:Int) (l':al) (b':Bool) (ns':List aa),F=some ((i,()),((ba l',ns',b',()),()))∧l' <:+ l∧Dm b' ns'∧ns'.length≤60:=by
 obtain⟨i,l',b',ns',e,k1,k2,k3,k4,k5⟩:=h
 exact⟨i,l',b',ns',e,k1,⟨hd.1.elim (fun h => .inl (k2 h)) (fun h => .inr (VI k3 h)),k5 hd.2⟩,k4⟩
def ow (s m:al) (L:Int) (F:RI) (G:RS):Prop :=
 (∃(i:Int) (l1 l2:al) (ns:List aa),F=some ((i,()),((ba l1,ns,false,()),()))∧G=some ((i,()),((ba s,at' s l2,false,ns,()),()))∧bl l1=bl l2∧l1 <:+ m∧l2 <:+ m∧dw ns=true∧ns.length≤60∧(f0 (bl l1)=0∨dK (f0 (bl l1)) < L))
 ∨ (∃(i:Int) (l1:al) (b1:Bool) (ns1:List aa) (j:Int) (l2:al) (ns2:List aa),F=some ((i,()),((ba l1,ns1,b1,()),()))∧Dm b1 ns1∧l1 <:+ m∧ns1.length≤60∧G=some ((j,()),((ba s,at' s l2,true,ns2,()),()))∧l2 <:+ s∧ns2.length≤61+m.length)
theorem TH (k:Int):dK k < 5:=by
 unfold dK
 repeat' split
 all_goals omega
theorem ow.mono {s m m':al} {L:Int} {F:RI} {G:RS} (h:ow s m L F G) (hm:m <:+ m'):ow s m' L F G:=by
 have:=aN hm
 rcases h with⟨i,l1,l2,ns,e1,e2,h1,h2,h3,h4,h5,h6⟩ | ⟨i,l1,b1,ns1,j,l2,ns2,e1,h1,h2,h3,e2,h4,h5⟩
 ·exact .inl ⟨i,l1,l2,ns,e1,e2,h1,ak h2 hm,ak h3 hm,h4,h5,h6⟩
 ·exact .inr ⟨i,l1,b1,ns1,j,l2,ns2,e1,h1,ak h2 hm,h3,e2,h4,by omega⟩
theorem Rq {ns:List aa} {x:aa} (h:sm ns=true) (hx:xW x=true):sm (ns++[x])=true:=by
 unfold sm at h ⊢
 rw[List.all_append,h]
 simp[hx]
theorem Ov {x:aa} (h:xW x=true):x.2.2.1.2.2.1.size≤9223372036854775807:=by
 unfold xW at h
 rw[Bool.and_eq_true,decide_eq_true_eq] at h
 exact Nat.le_trans h.1 (by decide)
theorem r5 {s m l1 l2:al} {x:aa} {ns:List aa} (hsx:xW x=true) (h1:bl l1=bl l2) (k1:l1 <:+ m) (k2:l2 <:+ m) (hms:m <:+ s) (ho:dw ns=true) (hn:ns.length≤60) :
  ow s m 5 (bg x (ba l1) false ns) (cc x (ba s) (at' s l2) false ns):=by
 have hx:=Ov hsx
 obtain⟨i,e,hi⟩:=Eo (x:=x) (l:=l1) (b:=false) hn
 rw[e,Jg (by omega) hx]
 by_cases hlt:ns.length < 60
 ·have hi:=hi rfl hlt
  subst hi
  have d60:decide (60≤ns.length)=false:=decide_eq_false (by omega)
  rw[d60,if_pos ⟨rfl,hlt⟩]
  simp only[Bool.false_or]
  cases hk:dE x with
  | true =>
   refine .inl ⟨_,l1,l2,ns++[x],rfl,rfl,h1,k1,k2,?_,?_,.inr (TH _)⟩
   ·unfold dw at ho ⊢
    rw[List.all_append,ho]
    simp[hk]
   ·rw[List.length_append,List.length_singleton]; omega
  | false =>
   refine .inr ⟨_,l1,false,ns++[x],(ns.length:Int),l2,ns++[x],rfl,⟨.inr ?_,Rq (wB ho) hsx⟩,k1,?_,rfl,ak k2 hms,?_⟩
   ·unfold dw
    rw[List.all_append]
    simp[hk]
   ·rw[List.length_append,List.length_singleton]; omega
   ·rw[List.length_append,List.length_singleton]; omega
 ·have d60:decide (60≤ns.length)=true:=decide_eq_true (by omega)
  rw[d60,if_neg (by omega)]
  refine .inr ⟨i,l1,true,ns,(ns.length:Int),l2,ns++[x],rfl,H6 ho,k1,hn,?_,ak k2 hms,?_⟩
  ·simp
  ·rw[List.length_append,List.length_singleton]; omega
theorem Ow {s:al} {a:Int} {x:aa} {ns:List aa} (hn:ns.length≤1000) (hx:x.2.2.1.2.2.1.size≤9223372036854775807):cc x (ba s) a true ns=some (((ns.length:Int),()),((ba s,a,true,ns++[x],()),())):=by
 rw[Jg hn hx]
 rfl
theorem TI {op:Int} {s:ByteArray} {a:Int} {b:Bool} {ns:List aa} {kids:List Int}:tR op s a b ns kids=cX op s a b kids ns:=by
 rw[F0,nI]
theorem K3 {op:Int} {s:ByteArray} {a:Int} {ns:List aa} {kids:List Int}:cX op s a true kids ns=some ((0,()),((s,a,true,ns,()),())):=by
 rw[nI]
 rfl
abbrev nF (op:Int) (kids:List Int):aa:=(6,op,(0,0,(⟨#[]⟩:ByteArray),()),((0,0,()),false,false,()),((0,0,()),false,false,()),kids,())
noncomputable def BJ (op deep:Int) (y:List Int) (r:ByteArray) (b:Bool) (ns:List aa):RI :=
 (bJ (⟨#[44]⟩:ByteArray) r b ns).bind fun z3=>(if(!z3.1.1)=true then(if z3.2.1.2.2.1=true then((bg (nF op y) z3.2.1.1 true z3.2.1.2.1).bind fun z4=>(some ((z4.1.1,()),(z4.2.1,())))) else((bJ (⟨#[41]⟩:ByteArray) z3.2.1.1 z3.2.1.2.2.1 z3.2.1.2.1).bind fun z5=>((bg (nF op y) z5.2.1.1 (!z5.1.1) z5.2.1.2.1).bind fun z6=>(some ((z6.1.1,()),(z6.2.1,())))))) else(cC op deep z3.2.1.1 z3.2.1.2.2.1 y z3.2.1.2.1))
theorem Qd {op deep:Int} {l:al} {kids:List Int} {ns:List aa} (hl:l.length≤900):cC op deep (ba l) false kids ns =
  if K0 (bl l)=true then(bg (nA (cL ((bl l).takeWhile bh)).1 (cL ((ku (bl l)).takeWhile bh)).1) (ba ((ku (bl l)).dropWhile bh)) (!(cL ((ku (bl l)).takeWhile bh)).2) ns).bind fun z2=>(app kids ([z2.1.1]:(List Int)) 8 fun y1=>BJ op deep y1 z2.2.1.1 z2.2.1.2.2.1 z2.2.1.2.1)
  else(bL 1 (IntKind.i64.wrap (deep+1)) (ba l) false ns).bind fun z7=>(app kids ([z7.1.1]:(List Int)) 8 fun y2=>BJ op deep y2 z7.2.1.1 z7.2.1.2.2.1 z7.2.1.2.1):=by
 rw[lx]
 simp only[Bool.not_false,if_true]
 rw[Oq hl]
 by_cases ha:K0 (bl l)=true
 ·rw[if_pos ha,if_pos ha]
  simp only[Option.bind_some,if_true,Bool.false_or]
  rfl
 ·rw[if_neg ha,if_neg ha]
  simp only[Option.bind_some,Bool.false_eq_true,if_false]
  rfl
theorem Er : ∀(l:al),∀(deep least:Int) (b:Bool) (ns:List aa),0≤deep→deep+(l.length:Int)≤400→ns.length≤60→gV l b ns (bL least deep (ba l) b ns):=fun l=>TG _ l rfl
theorem BK {op deep:Int} {y:List Int} {l:al} {b:Bool} {ns:List aa} (hd0:0≤deep) (hd:deep+1+(l.length:Int)≤400) (hy:y.length+l.length≤9000) (hn:ns.length≤60):gV l b ns (BJ op deep y (ba l) b ns):=by
 have hbl:=aN (aF l)
 unfold BJ
 rw[show(⟨#[44]⟩:ByteArray)=ba [44] from rfl,ef (by omega)]
 simp only[Option.bind_some,jA]
 by_cases hc:sg (bl l)=[44]
 ·have hc':(bl l).head? = some 44:=by rw[←ot (c:=44) (.inr (.inr (.inr (.inl rfl))))]; exact hc
  have hlt:=pk hc'
  simp only[hc,decide_true,Bool.not_true,Bool.false_eq_true,if_false,if_true,List.length_singleton]
  exact(K1 (n:=l.length+1) (fun l' _ deep least b ns d0 d1 hn=>Er l' deep least b ns d0 d1 hn) _ _ op deep b y ns rfl (by omega) hd0 (by omega) (by omega) hn).mono (im l) id (List.prefix_refl _)
 ·simp only[hc,decide_false,Bool.not_false,if_true,if_false]
  cases b with
  | true =>
   simp only[if_true]
   exact(eW hn (H5 (by omega))).mono (aF l) (fun _=>rfl) (List.prefix_refl _)
  | false =>
   simp only[Bool.false_eq_true,if_false]
   rw[show(⟨#[41]⟩:ByteArray)=ba [41] from rfl,ef (by omega)]
   simp only[Option.bind_some,jA]
   refine(eW hn (H5 (by omega))).mono ?_ (fun h=>by cases h) (List.prefix_refl _)
   split
   ·exact ak (ak (fZ _ _) (aF _)) (aF l)
   ·exact ak (aF _) (aF l)
noncomputable def Es (op:Int) (y:List Int) (s:ByteArray) (a:Int) (b:Bool) (ns:List aa):RS :=
 (dN (⟨#[41]⟩:ByteArray) s a b ns).bind fun z2=>(if z2.1.1=true then((cc (nF op y) z2.2.1.1 z2.2.1.2.1 z2.2.1.2.2.1 z2.2.1.2.2.2.1).bind fun z3=>(some ((z3.1.1,()),(z3.2.1,())))) else((dN (⟨#[44]⟩:ByteArray) z2.2.1.1 z2.2.1.2.1 z2.2.1.2.2.1 z2.2.1.2.2.2.1).bind fun z4=>(if(!z4.1.1)=true then(cX op z4.2.1.1 z4.2.1.2.1 true y z4.2.1.2.2.2.1) else(cX op z4.2.1.1 z4.2.1.2.1 z4.2.1.2.2.1 y z4.2.1.2.2.2.1))))
theorem xX {op:Int} {y:List Int} {s l:al} {ns:List aa} (hs:s.length≤900) (h:l <:+ s) : ∃ l',l' <:+ s∧Es op y (ba s) (at' s l) true ns=some ((0,()),((ba s,at' s l',true,ns,()),())):=by
 unfold Es
 rw[show(⟨#[41]⟩:ByteArray)=ba [41] from rfl,iU (by omega) (by decide) h]
 simp only[Option.bind_some,Bool.not_true,Bool.false_and,Bool.false_eq_true,if_false]
 rw[show(⟨#[44]⟩:ByteArray)=ba [44] from rfl,iU (by omega) (by decide) (ak (aF l) h)]
 simp only[Option.bind_some,Bool.not_true,Bool.false_and,Bool.false_eq_true,if_false,Bool.not_false,if_true]
 exact⟨bl (bl l),ak (aF _) (ak (aF l) h),K3⟩
theorem Qe {op:Int} {s l:al} {kids:List Int} {ns:List aa}:cX op (ba s) (at' s l) false kids ns=(s9 (ba s) (at' s l) false ns).bind fun z1=>(app kids ([z1.1.1]:(List Int)) 8 fun y1=>Es op y1 z1.2.1.1 z1.2.1.2.1 z1.2.1.2.2.1 z1.2.1.2.2.2.1):=by
 rw[nI]
 rfl
theorem YU {s l:al} {ns:List aa} (hs:s.length≤900) (h:l <:+ s):s9 (ba s) (at' s l) false ns =
  if K0 (bl l)=true then(if(cL ((ku (bl l)).takeWhile bh)).2=true then cc (nA (cL ((bl l).takeWhile bh)).1 (cL ((ku (bl l)).takeWhile bh)).1) (ba s) (at' s ((ku (bl l)).dropWhile bh)) false ns
   else some ((0,()),((ba s,at' s ((ku (bl l)).dropWhile bh),true,ns,()),())))
  else eR 1 (ba s) (at' s (bl l)) false ns:=by
 have hm:=ak (aF l) h
 have hr:=ak (Ot l) h
 have hsl:=aN h
 have h1:=aN (aF l)
 have h2:=mF bh (bl l)
 have h3:=aN (Jj l)
 rw[Ni,Oc (by omega) h]
 simp only[Option.bind_some]
 rw[Ge (by omega) hm]
 simp only[Option.bind_some]
 rw[tV (by omega)]
 simp only[Option.bind_some]
 unfold K0
 cases hp:(cL ((bl l).takeWhile bh)).2 with
 | false=>simp only[Bool.false_and,Bool.false_eq_true,if_false,gU]
 | true =>
  simp only[if_true,Bool.true_and]
  rw[show(⟨#[58]⟩:ByteArray)=ba [58] from rfl,iU (by omega) (by decide) hr]
  simp only[Option.bind_some,Bool.not_false,Bool.true_and,F5]
  by_cases hc:(bl ((bl l).dropWhile bh)).head? = some 58
  ·simp only[hc,decide_true,if_true,List.length_singleton]
   have hq:(bl ((bl l).dropWhile bh)).drop 1 <:+ s:=ak (im _) hr
   rw[Oc (by omega) hq]
   simp only[Option.bind_some]
   have hq2:ku (bl l) <:+ s:=ak (aF _) hq
   rw[show bl ((bl ((bl l).dropWhile bh)).drop 1)=ku (bl l) from rfl,Ge (by omega) hq2]
   simp only[Option.bind_some]
   have h4:=mF bh (ku (bl l))
   have h5:=aN hq2
   rw[tV (by omega)]
   simp only[Option.bind_some,gU]
   cases (cL ((ku (bl l)).takeWhile bh)).2 <;> simp
  ·simp only[hc,decide_false,Bool.false_eq_true,if_false,gU]
theorem r6 {s m m':al} {L L':Int} {F:RI} {G:RS} {K:(Int×Unit)×(rM×Unit)→RI} {K':(Int×Unit)×(lf×Unit)→RS} (h:ow s m L F G)
  (hg : ∀(i:Int) (l1 l2:al) (ns:List aa),bl l1=bl l2→l1 <:+ m→l2 <:+ m→dw ns=true→ns.length≤60→(f0 (bl l1)=0∨dK (f0 (bl l1)) < L)→ow s m' L' (K ((i,()),((ba l1,ns,false,()),()))) (K' ((i,()),((ba s,at' s l2,false,ns,()),()))))
  (hd : ∀(i:Int) (l1:al) (b1:Bool) (ns1:List aa) (j:Int) (l2:al) (ns2:List aa),Dm b1 ns1→l1 <:+ m→ns1.length≤60→l2 <:+ s→ns2.length≤61+m.length→ow s m' L' (K ((i,()),((ba l1,ns1,b1,()),()))) (K' ((j,()),((ba s,at' s l2,true,ns2,()),())))) :
  ow s m' L' (F.bind K) (G.bind K'):=by
 rcases h with⟨i,l1,l2,ns,rfl,rfl,h1,h2,h3,h4,h5,h6⟩ | ⟨i,l1,b1,ns1,j,l2,ns2,rfl,h1,h2,h3,rfl,h4,h5⟩
 ·exact hg i l1 l2 ns h1 h2 h3 h4 h5 h6
 ·exact hd i l1 b1 ns1 j l2 ns2 h1 h2 h3 h4 h5
theorem jN {s m:al} {L:Int} {F:RI} {G:RS} {l1:al} {b1:Bool} {ns1:List aa} {j:Int} {l2:al} {ns2:List aa} (hF:gV l1 b1 ns1 F) (hd:Dm b1 ns1) (h1:l1 <:+ m) (hG:G=some ((j,()),((ba s,at' s l2,true,ns2,()),()))) (h2:l2 <:+ s) (h3:ns2.length≤61+m.length):ow s m L F G:=by
 obtain⟨i,l',b',ns',e,k1,k2,k3⟩:=hF.dm hd
 exact .inr ⟨i,l',b',ns',j,l2,ns2,e,k2,ak k1 h1,k3,hG,h2,h3⟩
def VK (s:al) (n:Nat):Prop := ∀(l l0:al),bl l=bl l0→l <:+ s→l0 <:+ s→(bl l).length < n → ∀(L deep:Int) (ns:List aa),1≤L→L≤5→0≤deep→deep+((bl l).length:Int)≤200→dw ns=true→ns.length≤60 →
 ow s (bl l) L (bL L deep (ba l) false ns) (eR L (ba s) (at' s l0) false ns)
theorem kM {c:UInt8} {l:al}:([c]:al).isPrefixOf l=decide (l.head? = some c):=F5 c l
theorem Xt {s:al} (hs:s.length≤200) {n:Nat} (HB:VK s n) : ∀(k:Nat) (l1 l2:al),(bl l1).length=k→bl l1=bl l2→l1 <:+ s→l2 <:+ s→(bl l1).length < n → ∀(op deep:Int) (kids:List Int) (ns:List aa),0≤deep→deep+1+((bl l1).length:Int)≤200→kids.length+(bl l1).length≤1000→dw ns=true→ns.length≤60 →
  ow s (bl l1) 5 (cC op deep (ba l1) false kids ns) (cX op (ba s) (at' s l2) false kids ns):=by
 intro k
 induction k using Nat.strongRecOn with
 | ind k ih =>
  intro l1 l2 hk hb hs1 hs2 hn op deep kids ns hd0 hd hkl ho hns
  subst hk
  have hl1:=aN hs1
  have hm1:=aN (aF l1)
  have hms:bl l1 <:+ s:=ak (aF l1) hs1
  rw[Qd (by omega),Qe,YU (by omega) hs2,←hb]
  have doom : ∀(y:List Int) (x1:al) (b1:Bool) (ns1:List aa) (x2:al) (ns2:List aa),y.length=kids.length+1→Dm b1 ns1→x1 <:+ bl l1→ns1.length≤60→x2 <:+ s→ns2.length≤61+(bl l1).length →
    ow s (bl l1) 5 (BJ op deep y (ba x1) b1 ns1) (Es op y (ba s) (at' s x2) true ns2):=by
   intro y x1 b1 ns1 x2 ns2 hy hdm hx1 hn1 hx2 hn2
   have hlx:=aN hx1
   obtain⟨l',h1,h2⟩:=xX (op:=op) (y:=y) (ns:=ns2) (by omega) hx2
   exact jN (BK hd0 (by omega) (by omega) hn1) hdm hx1 h2 h1 hn2
  have good : ∀(y:List Int) (x1 x2:al) (ns:List aa),y.length=kids.length+1→bl x1=bl x2→x1 <:+ bl l1→x2 <:+ bl l1→dw ns=true→ns.length≤60 →
    ow s (bl l1) 5 (BJ op deep y (ba x1) false ns) (Es op y (ba s) (at' s x2) false ns):=by
   intro y x1 x2 ns hy hbx hx1 hx2 ho hn
   have hlx:=aN hx1
   have hblx:=aN (aF x1)
   have hx2s:=ak hx2 hms
   have c41 : ¬(41:UInt8)=44:=by decide
   have c44 : ¬(44:UInt8)=41:=by decide
   unfold BJ Es
   rw[show(⟨#[44]⟩:ByteArray)=ba [44] from rfl,show(⟨#[41]⟩:ByteArray)=ba [41] from rfl,ef (by omega),iU (by omega) (by decide) hx2s]
   simp only[Option.bind_some,ot (c:=44) (.inr (.inr (.inr (.inl rfl)))),jA,gU,List.length_singleton,Bool.not_false,Bool.true_and,kM,←hbx]
   by_cases h44:(bl x1).head? = some 44
   ·have h41 : ¬(bl x1).head? = some 41:=by rw[h44]; simp
    simp only[h44,h41,decide_true,decide_false,Bool.not_true,Bool.false_eq_true,if_false,if_true,Option.some.injEq,c44]
    rw[iU (by omega) (by decide) (ak (aF x1) (ak hx1 hms))]
    simp only[Option.bind_some,Bool.not_false,Bool.true_and,kM,dM,h44,decide_true,if_true,Bool.not_true,Bool.false_eq_true,if_false,List.length_singleton]
    have hlt:=pk h44
    have hb2:=aN (aF ((bl x1).drop 1))
    have hsx:(bl x1).drop 1 <:+ bl l1:=ak (im x1) hx1
    exact(ih _ (by omega) _ _ rfl rfl (ak hsx hms) (ak hsx hms) (by omega) op deep y ns hd0 (by omega) (by omega) ho hn).mono (ak (aF _) hsx)
   ·simp only[h44,decide_false,Bool.not_false,if_true,if_false,Bool.false_eq_true]
    rw[ef (by omega)]
    simp only[Option.bind_some,ot (c:=41) (.inr (.inr (.inl rfl))),dM,List.length_singleton]
    by_cases h41:(bl x1).head? = some 41
    ·simp only[h41,decide_true,if_true,Bool.not_true]
     have hsx:(bl x1).drop 1 <:+ bl l1:=ak (im x1) hx1
     exact r5 (H5 (by omega)) rfl hsx hsx hms ho hn
    ·simp only[h41,decide_false,if_false,Bool.not_false,Bool.false_eq_true]
     rw[iU (by omega) (by decide) (ak (aF x1) (ak hx1 hms))]
     simp only[Option.bind_some,Bool.not_false,Bool.true_and,kM,dM,h44,decide_false,if_true,Bool.false_eq_true,if_false]
     have hsx:bl x1 <:+ bl l1:=ak (aF x1) hx1
     exact jN (eW hn (H5 (by omega))) (H6 ho) hsx K3 (ak hsx hms) (by omega)
  by_cases ha:K0 (bl l1)=true
  ·rw[if_pos ha,if_pos ha]
   have hX:(ku (bl l1)).dropWhile bh <:+ bl l1:=by
    have:=Jj (bl l1)
    rw[dM] at this
    exact this
   cases h2:(cL ((ku (bl l1)).takeWhile bh)).2 with
   | true =>
    simp only[Bool.not_true,if_true]
    refine r6 (r5 (m:=bl l1) rfl rfl hX hX hms ho hns) ?_ ?_
    ·intro i x1 x2 ns' e1 e2 e3 e4 e5 _
     simp only
     rw[bd (by simp only[List.length_singleton]; omega),bd (by simp only[List.length_singleton]; omega)]
     exact good _ _ _ _ (by simp) e1 e2 e3 e4 e5
    ·intro i x1 b1 ns1 j x2 ns2 e1 e2 e3 e4 e5
     simp only
     rw[bd (by simp only[List.length_singleton]; omega),bd (by simp only[List.length_singleton]; omega)]
     have:kids++[i]=kids++[i]:=rfl
     by_cases hij:i=j
     ·subst hij
      exact doom _ _ _ _ _ _ (by simp) e1 e2 e3 e4 e5
     ·obtain⟨l',h1,h2⟩:=xX (op:=op) (y:=kids++[j]) (ns:=ns2) (by omega) e4
      have hlx:=aN e2
      exact jN (BK hd0 (by omega) (by simp only[List.length_append,List.length_singleton]; omega) e3) e1 e2 h2 h1 e5
   | false =>
    simp only[Bool.not_false,Bool.false_eq_true,if_false]
    obtain⟨i,h3,_⟩:=Eo (x:=nA (cL ((bl l1).takeWhile bh)).1 (cL ((ku (bl l1)).takeWhile bh)).1) (l:=(ku (bl l1)).dropWhile bh) (b:=true) hns
    rw[h3]
    simp only[Option.bind_some,Bool.true_eq_false,false_and,if_false,Bool.true_or]
    rw[bd (by simp only[List.length_singleton]; omega),bd (by simp only[List.length_singleton]; omega)]
    obtain⟨l',h1,h2⟩:=xX (op:=op) (y:=kids++[0]) (ns:=ns) (by omega) (ak hX hms)
    have hlx:=aN hX
    exact jN (BK hd0 (by omega) (by simp only[List.length_append,List.length_singleton]; omega) hns) (H6 ho) hX h2 h1 (by omega)
  ·rw[if_neg ha,if_neg ha,wr (by omega) (by omega)]
   refine r6 (HB l1 (bl l1) (dM l1).symm hs1 hms hn 1 (deep+1) ns (by decide) (by decide) (by omega) (by omega) ho hns) ?_ ?_
   ·intro i x1 x2 ns' e1 e2 e3 e4 e5 _
    simp only
    rw[bd (by simp only[List.length_singleton]; omega),bd (by simp only[List.length_singleton]; omega)]
    exact good _ _ _ _ (by simp) e1 e2 e3 e4 e5
   ·intro i x1 b1 ns1 j x2 ns2 e1 e2 e3 e4 e5
    simp only
    rw[bd (by simp only[List.length_singleton]; omega),bd (by simp only[List.length_singleton]; omega)]
    obtain⟨l',h1,h2⟩:=xX (op:=op) (y:=kids++[j]) (ns:=ns2) (by omega) e4
    have hlx:=aN e2
    exact jN (BK hd0 (by omega) (by simp only[List.length_append,List.length_singleton]; omega) e3) e1 e2 h2 h1 e5
theorem K4 {p:UInt8→Bool} {c:UInt8} : ∀ {l:al},c∈l.takeWhile p→p c=true
 | [],h=>by simp at h
 | x :: l,h=>by
  cases hx:p x with
  | true =>
   rw[List.takeWhile_cons_of_pos hx] at h
   rcases List.mem_cons.1 h with rfl | h
   ·exact hx
   ·exact K4 h
  | false =>
   rw[List.takeWhile_cons_of_neg (by rw[hx]; decide)] at h
   cases h
theorem Xu {w:al} (hw : ∀ c∈w,bh c=true) (h:(bB w).2=true):(w≠[])↔((bB w).1.1=1∨(bB w).1.1=3):=by
 constructor
 ·intro hne
  obtain⟨k1,k2⟩:=ph h
  rcases yG k1 with e | ⟨n,e,_⟩ | ⟨t,e⟩ | ⟨b,e⟩ | ⟨n,e,h0⟩
  ·rw[e] at k2
   exact absurd (HQ (b:=[]) k2.symm) hne
  ·rw[e]; exact .inl rfl
  ·rw[e] at k2
   exfalso
   have e2:w=39 :: lb t:=by
    have:ba w=ba (39 :: lb t):=by
     rw[←k2]
     show(⟨#[39]⟩:ByteArray)++t=_
     rw[←d9 t,show(⟨#[39]⟩:ByteArray)=ba [39] from rfl,k9,dv]
     rfl
    exact HQ this
   exact absurd (hw 39 (by rw[e2]; simp)) (by decide)
  ·rw[e]; exact .inr rfl
  ·rw[e] at k2
   exfalso
   have f : ∀ n:Fin 6,1≤n.val→cY (n.val:Int)=ba (35 :: pN (n.val:Int)):=by decide +kernel
   have e2:w=35 :: pN (n.val:Int):=by
    have:ba w=ba (35 :: pN (n.val:Int)):=by
     rw[←k2]
     exact f n h0
    exact HQ this
   exact absurd (hw 35 (by rw[e2]; simp)) (by decide)
 ·rintro hk rfl
  have:(bB []).1.1=0:=rfl
  omega
theorem Yj {s:ByteArray} {a:Int} {ns:List aa}:eR 5 s a false ns=xg s a false ns:=by
 rw[C7]
 simp only[Bool.false_eq_true,if_false,gU]
 rfl
abbrev Xv (k:Int):aa:=(4,0,(0,0,(⟨#[]⟩:ByteArray),()),((0,0,()),false,false,()),((0,0,()),false,false,()),([k]:(List Int)),())
theorem VL:ByteArray.size ⟨#[]⟩≤9223372036854775807:=by decide
theorem r7 {s m:al} {L i j:Int} {l1 l2:al} {b:Bool} {ns1 ns2:List aa} (hd:Dm b ns1) (h1:l1 <:+ m) (h2:ns1.length≤60) (h3:l2 <:+ s) (h4:ns2.length≤61+m.length):ow s m L (some ((i,()),((ba l1,ns1,b,()),()))) (some ((j,()),((ba s,at' s l2,true,ns2,()),()))) :=
 .inr ⟨i,l1,b,ns1,j,l2,ns2,rfl,hd,h1,h2,rfl,h3,h4⟩
theorem Xw {s:al} (hs:s.length≤200) {n:Nat} (HB:VK s n) {m:al} (hbm:bl m=m) (hms:m <:+ s) (hmn:m.length≤n) {deep:Int} {ns:List aa} (hd0:0≤deep) (hd:deep+(m.length:Int)≤200) (ho:dw ns=true) (hn:ns.length≤60) :
  ow s m 5 (iV deep (m.takeWhile bh) (m.dropWhile bh) false ns) ((mZ (ba s) (at' s m) false ns).bind fun z10=>(fA z10.1.1 1 z10.2.1.1 z10.2.1.2.1 z10.2.1.2.2.1 z10.2.1.2.2.2.1)):=by
 have hml:=aN hms
 have hwl:=mF bh m
 have hrm:m.dropWhile bh <:+ m:=List.dropWhile_suffix _
 have hrs:=ak hrm hms
 have hrl:=aN hrm
 rw[Ge (by omega) hms]
 simp only[Option.bind_some]
 obtain⟨l',hl',e⟩:=Om (w:=m.takeWhile bh) (s:=s) (ns:=ns) (by omega) (by omega) ou [] (m.dropWhile bh) rfl hrs
 have e:fA (ba (m.takeWhile bh)) 1 (ba s) (at' s (m.dropWhile bh)) false ns=_:=e
 rw[e]
 have hl's:l' <:+ m:=by
  rcases hl' with rfl | rfl
  ·exact hrm
  ·exact ak (aF _) hrm
 have hlb:bl l'=bl (m.dropWhile bh):=by
  rcases hl' with rfl | rfl
  ·rfl
  ·exact dM _
 cases hf:ou.find? (fun k=>decide (gx k=m.takeWhile bh)) with
 | some k =>
  obtain⟨k',hk',hkw,hkm,hne⟩:=Rn (w:=m.takeWhile bh) (by rw[hf]; simp)
  rw[hf] at hk'
  cases hk'
  have hno : ∀ k∈ou,(bB (gx k)).2=false∧(cL (gx k)).2=false:=by decide +kernel
  obtain⟨v1,v2⟩:=hno k hkm
  rw[hkw] at v1 v2
  have hlt:=Ro (l:=m) (by rw[hbm]; exact hne)
  rw[hbm] at hlt
  have ei:iV deep (m.takeWhile bh) (m.dropWhile bh) false ns=iH k deep (ba (m.dropWhile bh)) false ns:=by
   unfold iV
   rw[if_neg (by rw[v1]; simp),if_neg (by rw[v2]; simp),hf]
  rw[ei,xu,if_neg (by decide),show(⟨#[40]⟩:ByteArray)=ba [40] from rfl,ef (by omega)]
  simp only[Option.bind_some,ot (c:=40) (.inr (.inl rfl)),kM,List.length_singleton]
  by_cases h40:(bl (m.dropWhile bh)).head? = some 40
  ·simp only[h40,decide_true,Bool.and_true,hf,if_true,Bool.not_true]
   have hdl:=pk h40
   have hds:(bl (m.dropWhile bh)).drop 1 <:+ m:=ak (im _) hrm
   have hb2:=aN (aF ((bl (m.dropWhile bh)).drop 1))
   rw[Ls,TI]
   exact(Xt hs HB _ _ _ rfl rfl (ak hds hms) (ak hds hms) (by omega) k deep [] ns hd0 (by omega) (by simp only[List.length_nil]; omega) ho hn).mono (ak (aF _) hds)
  ·simp only[h40,decide_false,Bool.and_false,if_false,Bool.not_false]
   have e0:ou.find? (fun _=>false)=none:=rfl
   rw[e0]
   simp only
   have es:rZ (m.takeWhile bh) s (at' s l') false ns=some ((0,()),((ba s,at' s l',true,ns,()),())):=by
    unfold rZ
    rw[if_neg (by rw[v1]; simp),if_neg (by rw[v2]; simp)]
   rw[es,lx]
   simp only[Bool.not_true,Bool.false_eq_true,if_false,jA]
   exact jN (eW hn (H5 (by simp))) (H6 ho) (ak (aF _) hrm) rfl (ak hl's hms) (by omega)
 | none =>
  have e0:ou.find? (fun k=>decide (gx k=m.takeWhile bh) && ([40]:al).isPrefixOf (bl (m.dropWhile bh)))=none:=by
   rw[List.find?_eq_none] at hf ⊢
   intro k hk
   have:=hf k hk
   simp only[decide_eq_true_eq] at this
   simp[this]
  rw[e0]
  simp only
  unfold rZ iV
  rw[hf]
  have hv:=fun h=>Xu (w:=m.takeWhile bh) (fun c hc=>K4 hc) h
  by_cases hc:(bB (m.takeWhile bh)).2=true∧m.takeWhile bh≠[]
  ·rw[if_pos hc,if_pos ⟨hc.1,(hv hc.1).1 hc.2⟩,pO]
   exact r5 (Rm (Nat.le_trans (dD (ph hc.1).1) (by decide))) hlb.symm hrm hl's hms ho hn
  ·rw[if_neg hc,if_neg (fun h=>hc ⟨h.1,(hv h.1).2 h.2⟩)]
   by_cases hp:(cL (m.takeWhile bh)).2=true
   ·rw[if_pos hp,if_pos hp]
    exact r5 rfl hlb.symm hrm hl's hms ho hn
   ·rw[if_neg hp,if_neg hp]
    exact r7 (H6 ho) hrm hn (ak hl's hms) (by omega)
theorem VM {s:al} (hs:s.length≤200) {n:Nat} (HB:VK s n) : ∀(k:Nat) (l l0:al),(bl l).length=k→bl l=bl l0→l <:+ s→l0 <:+ s→(bl l).length≤n → ∀(deep:Int) (ns:List aa),0≤deep→deep+((bl l).length:Int)≤200→dw ns=true→ns.length≤60 →
  ow s (bl l) 5 (kU deep (ba l) false ns) (xg (ba s) (at' s l0) false ns):=by
 intro k
 induction k using Nat.strongRecOn with
 | ind k ih =>
  intro l l0 hk hb hs1 hs2 hln deep ns hd0 hd ho hn
  subst hk
  have hl1:=aN hs1
  have hm1:=aN (aF l)
  have hms:bl l <:+ s:=ak (aF l) hs1
  rw[vZ,aA (by omega),Nj,show(⟨#[45]⟩:ByteArray)=ba [45] from rfl,show(⟨#[40]⟩:ByteArray)=ba [40] from rfl,show(⟨#[34]⟩:ByteArray)=ba [34] from rfl,show(⟨#[35]⟩:ByteArray)=ba [35] from rfl,show(⟨#[41]⟩:ByteArray)=ba [41] from rfl,ef (by omega),iU (by omega) (by decide) hs2]
  simp only[Option.bind_some,Bool.false_eq_true,if_false,jA,gU,ot (c:=45) (.inl rfl),List.length_singleton,Bool.not_false,Bool.true_and,kM,←hb]
  by_cases h45:(bl l).head? = some 45
  ·simp only[h45,decide_true,if_true]
   have hlt:=pk h45
   have hX:(bl l).drop 1 <:+ bl l:=fZ 1 _
   have hbX:=aN (aF ((bl l).drop 1))
   have hlX:((bl l).drop 1).length < (bl l).length:=by
    obtain⟨t,ht⟩:=kv h45
    rw[ht]
    simp
   rw[wr (by omega) (by omega),Yj]
   refine r6 (ih _ (by omega) _ _ rfl rfl (ak hX hms) (ak hX hms) (by omega) (deep+1) ns (by omega) (by omega) ho hn) ?_ ?_
   ·intro i x1 x2 ns' e1 e2 e3 e4 e5 _
    exact r5 (x:=Xv i) rfl e1 (ak e2 (ak (aF _) hX)) (ak e3 (ak (aF _) hX)) hms e4 e5
   ·intro i x1 b1 ns1 j x2 ns2 e1 e2 e3 e4 e5
    refine jN (eW e3) e1 (ak e2 (ak (aF _) hX)) (Ow (x:=Xv j) (ns:=ns2) (by omega) VL) e4 ?_
    show(ns2++[Xv j]).length≤_
    rw[List.length_append,List.length_singleton]
    omega
  ·simp only[h45,decide_false,Bool.false_eq_true,if_false]
   rw[Oo (by omega),iU (by omega) (by decide) hms]
   simp only[Option.bind_some,dM,Bool.not_false,Bool.true_and,kM,List.length_singleton]
   by_cases h40:(bl l).head? = some 40
   ·have n34 : ¬(bl l).head? = some 34:=by rw[h40]; decide
    have n35 : ¬(bl l).head? = some 35:=by rw[h40]; decide
    simp only[h40,decide_true,if_true]
    rw[if_neg (by decide),if_neg (by decide)]
    have hX:(bl l).drop 1 <:+ bl l:=fZ 1 _
    have hbX:=aN (aF ((bl l).drop 1))
    have hlX:((bl l).drop 1).length < (bl l).length:=by
     obtain⟨t,ht⟩:=kv h40
     rw[ht]
     simp
    rw[wr (by omega) (by omega)]
    refine r6 (HB _ _ rfl (ak hX hms) (ak hX hms) (by omega) 1 (deep+1) ns (by decide) (by decide) (by omega) (by omega) ho hn) ?_ ?_
    ·intro i x1 x2 ns' e1 e2 e3 e4 e5 _
     have hx1:x1 <:+ bl l:=ak e2 (ak (aF _) hX)
     have hx2:x2 <:+ bl l:=ak e3 (ak (aF _) hX)
     have hlx:=aN hx1
     simp only[Bool.false_eq_true,if_false]
     rw[ef (by omega),iU (by omega) (by decide) (ak hx2 hms)]
     simp only[Option.bind_some,ot (c:=41) (.inr (.inr (.inl rfl))),List.length_singleton,Bool.not_false,Bool.true_and,kM,←e1]
     by_cases h41:(bl x1).head? = some 41
     ·simp only[h41,decide_true,if_true,Bool.not_true,Bool.false_eq_true,if_false]
      have hd1:(bl x1).drop 1 <:+ bl l:=ak (im x1) hx1
      exact .inl ⟨i,(bl x1).drop 1,(bl x1).drop 1,ns',rfl,rfl,rfl,hd1,hd1,e4,e5,.inr (TH _)⟩
     ·simp only[h41,decide_false,if_false,Bool.not_false,Bool.false_eq_true,if_true]
      have hd1:bl x1 <:+ bl l:=ak (aF x1) hx1
      exact r7 (H6 e4) hd1 e5 (ak hd1 hms) (by omega)
    ·intro i x1 b1 ns1 j x2 ns2 e1 e2 e3 e4 e5
     have hx1:x1 <:+ bl l:=ak e2 (ak (aF _) hX)
     have hlx:=aN hx1
     rw[iU (by omega) (by decide) e4]
     simp only[Option.bind_some,Bool.not_true,Bool.false_and,Bool.false_eq_true,if_false,Bool.not_false,if_true]
     cases b1 with
     | true =>
      simp only[if_true]
      exact r7 ⟨.inl rfl,e1.2⟩ hx1 e3 (ak (aF x2) e4) (by omega)
     | false =>
      simp only[Bool.false_eq_true,if_false]
      rw[ef (by omega)]
      simp only[Option.bind_some]
      have hdm:dw ns1=false:=e1.1.elim (fun h=>by cases h) id
      refine r7 ⟨.inr hdm,e1.2⟩ ?_ e3 (ak (aF x2) e4) (by omega)
      split
      ·exact ak (ak (fZ _ _) (aF _)) hx1
      ·exact ak (aF _) hx1
   ·simp only[h40,decide_false,Bool.false_eq_true,if_false]
    rw[iU (by omega) (by decide) hms]
    simp only[Option.bind_some,dM,Bool.not_false,Bool.true_and,kM,List.length_singleton]
    by_cases h34:(bl l).head? = some 34
    ·simp only[h34,decide_true,if_true]
     obtain⟨t,ht⟩:=kv h34
     have htl:t.length+1=(bl l).length:=by rw[ht]; simp
     have hts:t <:+ bl l:=⟨[34],by rw[ht]; rfl⟩
     rw[ht]
     simp only[List.drop_succ_cons,List.drop_zero]
     rw[H3 (by omega),Xp (by omega) (ak hts hms)]
     cases hq:qt t with
     | none =>
      rw[←ht]
      exact r7 (H6 ho) (pj _) hn ⟨s,by simp⟩ (by omega)
     | some p =>
      obtain⟨q1,q2,q3⟩:=VC t p.1 p.2 hq
      show ow s _ 5 (bQ _ _ false ns) (cc _ _ _ false ns)
      rw[pO,←ht]
      have hp:=ak q1 hts
      refine r5 (x:=nC (2,0,ba ([]++p.1),())) (Rm ?_) rfl hp hp hms ho hn
      show(ba ([]++p.1)).size≤_
      rw[aQ]
      simp only[List.nil_append]
      omega
    ·simp only[h34,decide_false,Bool.false_eq_true,if_false]
     rw[iU (by omega) (by decide) hms]
     simp only[Option.bind_some,dM,Bool.not_false,Bool.true_and,kM,List.length_singleton]
     by_cases h35:(bl l).head? = some 35
     ·simp only[h35,decide_true,if_true]
      obtain⟨t,ht⟩:=kv h35
      have htl:t.length+1=(bl l).length:=by rw[ht]; simp
      have hts:t <:+ bl l:=⟨[35],by rw[ht]; rfl⟩
      rw[ht]
      simp only[List.drop_succ_cons,List.drop_zero]
      have es:=KZ (s:=s) (l:=t) (b:=false) (ns:=ns) (by omega) (ak hts hms) Ay [] rfl
      have es:jh 1 (ba s) (at' s t) false ns=_:=es
      rw[Rp (by omega),es]
      cases Ay.find? (Az t) with
      | none =>
       simp only
       rw[←ht]
       exact r7 (H6 ho) (pj _) hn (ak hts hms) (by omega)
      | some e =>
       simp only
       rw[pO,←ht]
       have hp:=ak (fZ (pN e).length t) hts
       exact r5 (x:=nC (vE e)) (Rm (by show eS.size≤_; decide)) rfl hp hp hms ho hn
     ·simp only[h35,decide_false,Bool.false_eq_true,if_false]
      exact Xw hs HB (dM l) hms hln hd0 hd ho hn
end Go.Proofs.YteaahciglahehaaGreatDoor.Abs
