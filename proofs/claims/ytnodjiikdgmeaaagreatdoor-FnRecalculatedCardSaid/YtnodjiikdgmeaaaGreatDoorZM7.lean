/- Plain laws: quoted texts, names of errors and of functions, areas: what both sides read. -/
import Derived.Test.YtnodjiikdgmeaaaGreatDoorZM6
import Derived.Lib.IndexBytes
set_option linter.unusedVariables false
set_option linter.unusedSimpArgs false
set_option linter.unusedSectionVars false
namespace Go.Proofs.YtnodjiikdgmeaaaGreatDoor.Abs
open Go
theorem Iq (c:UInt8) (t:ag) : ∀ pre:ag,c ∉ pre→Lib.indexByte (pre++c :: t) c=(pre.length:Int)
 | [],_=>by simp[Lib.indexByte]
 | b :: pre,h=>by
  simp only[List.mem_cons,not_or] at h
  have hb : ¬b=c:=fun e=>h.1 e.symm
  have ih:=Iq c t pre h.2
  simp only[List.cons_append,Lib.indexByte,ih]
  have : ¬((pre.length:Int) = -1):=by omega
  simp[hb,this]
theorem M7 (c:UInt8) : ∀ pre:ag,c ∉ pre→Lib.indexByte pre c = -1
 | [],_=>rfl
 | b :: pre,h=>by
  simp only[List.mem_cons,not_or] at h
  have hb : ¬b=c:=fun e=>h.1 e.symm
  simp only[Lib.indexByte,M7 c pre h.2]
  simp[hb]
theorem XB {c:UInt8} {pre t:ag} (h:c ∉ pre):Lib.cut (pre++c :: t) [c]=(pre,t,true):=by
 unfold Lib.cut
 rw[Lib.index_one,Iq c t pre h,if_pos (by omega)]
 simp only[Int.toNat_natCast,List.length_singleton,Prod.mk.injEq,and_true]
 refine⟨List.take_left' rfl,?_⟩
 have:pre++c :: t=(pre++[c])++t:=by simp
 rw[this,List.drop_left' (by simp)]
theorem V3 {c:UInt8} {s:ag} (h:c ∉ s):Lib.cut s [c]=(s,[],false):=by
 unfold Lib.cut
 rw[Lib.index_one,M7 c s h,if_neg (by omega)]
theorem XC {x c:ag} (hx:x.length < 4294967281):strings_Cut (ba x) (ba c)=some ((ba (Lib.cut x c).1,ba (Lib.cut x c).2.1,(Lib.cut x c).2.2,()),()):=by
 rw[H7]
 show(if(ba x).size < 4294967281 then some (((⟨(Lib.cut (lb (ba x)) (lb (ba c))).1.toArray⟩:ByteArray),(⟨(Lib.cut (lb (ba x)) (lb (ba c))).2.1.toArray⟩:ByteArray),(Lib.cut (lb (ba x)) (lb (ba c))).2.2,()),()) else none)=_
 rw[if_pos (by rw[ay]; exact hx),dP,dP]
theorem Fv (c:UInt8) : ∀ s:ag,c∈s → ∃ pre t,s=pre++c :: t∧c ∉ pre
 | b :: s,h=>by
  by_cases hb:b=c
  ·exact⟨[],s,by rw[hb]; rfl,by simp⟩
  ·obtain⟨pre,t,h1,h2⟩:=Fv c s (by rcases List.mem_cons.1 h with e | e; exact absurd e.symm hb; exact e)
   exact⟨b :: pre,t,by rw[h1]; rfl,by simp only[List.mem_cons,not_or]; exact⟨Ne.symm hb,h2⟩⟩
def qt:ag→Option (ag×ag)
 | []=>none
 | c :: l=>if c=34 then(match l with
   | []=>some ([],[])
   | d :: l'=>if d=34 then(qt l').map (fun p=>(34 :: p.1,p.2)) else some ([],d :: l'))
  else(qt l).map fun p=>(c :: p.1,p.2)
theorem AB {c:UInt8} {l:ag} (h:c≠34):qt (c :: l)=(qt l).map fun p=>(c :: p.1,p.2):=by
 rw[qt.eq_def]
 simp only[if_neg h]
theorem He:qt [34]=some ([],[]):=by
 rw[qt.eq_def]
 rfl
theorem Hf {l:ag}:qt (34 :: 34 :: l)=(qt l).map fun p=>(34 :: p.1,p.2):=by
 rw[qt.eq_def]
 rfl
theorem Ds {d:UInt8} {l:ag} (h:d≠34):qt (34 :: d :: l)=some ([],d :: l):=by
 rw[qt.eq_def]
 simp only[if_true,if_neg h]
theorem M8 (l:ag) : ∀ pre:ag,(34:UInt8) ∉ pre→qt (pre++l)=(qt l).map fun p=>(pre++p.1,p.2)
 | [],_=>by simp
 | b :: pre,h=>by
  simp only[List.mem_cons,not_or] at h
  have hb : ¬b=34:=fun e=>h.1 e.symm
  rw[List.cons_append,AB hb,M8 l pre h.2,Option.map_map]
  rfl
theorem XD {s:ag} (h:(34:UInt8) ∉ s):qt s=none:=by
 have:=M8 [] s h
 rw[List.append_nil] at this
 rw[this]
 rfl
theorem T5 : ∀(l t r:ag),qt l=some (t,r)→r <:+ l∧t.length≤l.length∧r.length < l.length:=by
 intro l
 induction hn:l.length using Nat.strongRecOn generalizing l with
 | ind n ih =>
  intro t r h
  subst hn
  cases l with
  | nil=>cases h
  | cons c l =>
   by_cases hc:c=34
   ·subst hc
    cases l with
    | nil =>
     rw[He] at h
     cases h
     exact⟨⟨[34],rfl⟩,by simp,by simp⟩
    | cons d l' =>
     by_cases hd:d=34
     ·subst hd
      rw[Hf,Option.map_eq_some_iff] at h
      obtain⟨⟨t',r'⟩,h1,h2⟩:=h
      cases h2
      obtain⟨k1,k2,k3⟩:=ih l'.length (by simp only[List.length_cons]; omega) l' rfl t' r' h1
      refine⟨ak k1 ⟨[34,34],rfl⟩,?_,?_⟩
      ·simp only[List.length_cons]; omega
      ·simp only[List.length_cons]; omega
     ·rw[Ds hd] at h
      cases h
      exact⟨⟨[34],rfl⟩,by simp,by simp⟩
   ·rw[AB hc,Option.map_eq_some_iff] at h
    obtain⟨⟨t',r'⟩,h1,h2⟩:=h
    cases h2
    obtain⟨k1,k2,k3⟩:=ih l.length (by simp) l rfl t' r' h1
    refine⟨ak k1 ⟨[c],rfl⟩,?_,?_⟩
    ·simp only[List.length_cons]; omega
    ·simp only[List.length_cons]; omega
abbrev nC (v:ab):aa:=(1,0,v,((0,0,()),false,false,()),((0,0,()),false,false,()),([]:(List Int)),())
noncomputable def iQ (out:ag) (r:ByteArray) (b:Bool) (ns:List aa):Option (ag×ag)→Option ((Int×Unit)×(rh×Unit))
 | none=>some ((-1,()),((r,ns,true,()),()))
 | some p=>bO (2,0,ba (out++p.1),()) (ba p.2) b ns
theorem Dt {F:Option ((Int×Unit)×(rh×Unit))}:(F.bind fun z3=>(some ((z3.1.1,()),(z3.2.1,()))))=F:=by
 cases F with
 | none=>rfl
 | some z=>rfl
theorem hH {F:Option ((Int×Unit)×(lD×Unit))}:(F.bind fun z3=>(some ((z3.1.1,()),(z3.2.1,()))))=F:=by
 cases F with
 | none=>rfl
 | some z=>rfl
theorem M9 {r:ByteArray} {b:Bool} {ns:List aa} : ∀(x out:ag),out.length+x.length≤1000→kj (ba out) (ba x) r b ns=iQ out r b ns (qt x):=by
 intro x
 induction hn:x.length using Nat.strongRecOn generalizing x with
 | ind n ih =>
  intro out hl
  rw[Ag,show(⟨#[34]⟩:ByteArray)=ba [34] from rfl,XC (by omega)]
  simp only[Option.bind_some]
  by_cases hm:(34:UInt8)∈x
  ·obtain⟨pre,t,h1,h2⟩:=Fv 34 x hm
   have hx:x.length=pre.length+t.length+1:=by rw[h1]; simp; omega
   rw[h1,XB h2,M8 _ pre h2]
   simp only[Bool.not_true,Bool.false_eq_true,if_false]
   rw[bF (by omega),s5 t [34] (by omega)]
   simp only[Option.bind_some,Dt]
   cases t with
   | nil =>
    rw[He,show([34]:ag).isPrefixOf ([]:ag)=false from rfl]
    simp[iQ]
   | cons d l' =>
    by_cases hd:d=34
    ·subst hd
     rw[List.length_cons] at hx
     have e1:([34]:ag).isPrefixOf (34 :: l')=true:=by rw[gW]; rfl
     rw[e1]
     simp only[Bool.not_true,Bool.false_eq_true,if_false]
     rw[bF (by simp only[List.length_append,List.length_singleton]; omega),show(1:Int)=((1:Nat):Int) from rfl,fR (by simp)]
     simp only[List.drop_succ_cons,List.drop_zero]
     rw[ih l'.length (by omega) l' rfl (out++pre++[34]) (by simp only[List.length_append,List.length_singleton]; omega)]
     rw[Hf]
     cases qt l' with
     | none=>rfl
     | some p=>simp[iQ]
    ·have e1:([34]:ag).isPrefixOf (d :: l')=false:=by rw[gW]; simp[hd]
     rw[e1]
     simp only[Bool.not_false,if_true]
     rw[Ds hd]
     simp[iQ]
  ·rw[V3 hm,XD hm]
   rfl
theorem AC {l:ag} {b:Bool} {ns:List aa} (hl:l.length≤900):kv (ba (34 :: l)) b ns=iQ [] (ba (34 :: l)) b ns (qt l):=by
 rw[DR,show(1:Int)=((1:Nat):Int) from rfl,fR (by simp)]
 exact M9 l [] (by simp; omega)
noncomputable def sQ (acc s:ag) (b:Bool) (ns:List aa):Option (ag×ag)→Option ((Int×Unit)×(lD×Unit))
 | none=>some ((0,()),((ba s,bT s [],true,ns,()),()))
 | some p=>ce (nC (2,0,ba (acc++p.1),())) (ba s) (bT s p.2) b ns
theorem RZ {s:ag} {b:Bool} {ns:List aa} (hs:s.length≤900) : ∀(l acc:ag),l <:+ s→acc.length+l.length≤1000→ll (ba acc) (ba s) (bT s l) b ns=sQ acc s b ns (qt l):=by
 intro l
 induction hn:l.length using Nat.strongRecOn generalizing l with
 | ind n ih =>
  intro acc h ha
  subst hn
  rw[Ff]
  cases l with
  | nil =>
   rw[ax (by rw[ay]; unfold bT; simp)]
   rfl
  | cons c l =>
   obtain⟨pre,h1,h2⟩:=o0 h
   have hl:pre.length+l.length+1=s.length:=by rw[h1]; simp; omega
   rw[List.length_cons] at ha
   have h':l <:+ s:=ak ⟨[c],rfl⟩ h
   have e1:(pre.length:Int)+1=bT s l:=by
    unfold bT
    omega
   rw[h2,aF (by rw[ay]; omega),ly h1,wr (by omega) (by omega)]
   by_cases hc:c=34
   ·subst hc
    have e34:(((34:UInt8).toNat:Int) != 34)=false:=rfl
    rw[e34,e1]
    simp only[Bool.false_eq_true,if_false,hH]
    cases l with
    | nil =>
     rw[He,aF (by rw[ay]; unfold bT; simp)]
     simp[sQ]
    | cons d l' =>
     obtain⟨Fl,k1,k2⟩:=o0 h'
     have hl2:Fl.length+l'.length+1=s.length:=by rw[k1]; simp; omega
     rw[List.length_cons] at ha
     have h'':l' <:+ s:=ak ⟨[d],rfl⟩ h'
     have e2:(Fl.length:Int)+1=bT s l':=by
      unfold bT
      omega
     rw[k2,ax (by rw[ay]; omega),ly k1]
     by_cases hd:d=34
     ·subst hd
      rw[e34,Hf]
      simp only[Bool.false_eq_true,if_false]
      rw[show(⟨#[34]⟩:ByteArray)=ba [34] from rfl,bF (by simp only[List.length_singleton]; omega),wr (by omega) (by omega),e2,ih l'.length (by simp only[List.length_cons]; omega) l' rfl (acc++[34]) h'' (by simp only[List.length_append,List.length_singleton]; omega)]
      cases qt l' with
      | none=>rfl
      | some p=>simp[sQ]
     ·have hd':((d.toNat:Int) != 34)=true:=by
       simp only[bne_iff_ne,ne_eq]
       intro e
       apply hd
       apply UInt8.toNat_inj.1
       show d.toNat=34
       omega
      rw[hd',Ds hd]
      simp only[if_true]
      rw[←k2]
      simp[sQ]
   ·have hc':((c.toNat:Int) != 34)=true:=by
     simp only[bne_iff_ne,ne_eq]
     intro e
     apply hc
     apply UInt8.toNat_inj.1
     show c.toNat=34
     omega
    rw[hc']
    simp only[if_true]
    rw[show(pre.length:Int)+1=((pre.length+1:Nat):Int) by omega,yV (by omega) (by omega)]
    have e3:(s.take (pre.length+1)).drop pre.length=[c]:=by
     rw[h1,List.take_append,List.drop_append]
     simp
    rw[e3,bF (by simp only[List.length_singleton]; omega),show((pre.length+1:Nat):Int)=bT s l by omega,ih l.length (by simp) l rfl (acc++[c]) h' (by simp only[List.length_append,List.length_singleton]; omega)]
    rw[AB hc]
    cases qt l with
    | none=>rfl
    | some p=>simp[sQ]
theorem V4 {s l:ag} {b:Bool} {ns:List aa} (hs:s.length≤900) (h:l <:+ s):zP (ba s) (bT s l) b ns=sQ [] s b ns (qt l):=by
 rw[Ku]
 have:=aI h
 exact RZ hs l [] h (by simp; omega)
def dz (n:Int):ag:=(lb (dg n)).drop 1
abbrev qH:List Int:=[1,2,3,4,5]
def gX (l:ag) (n:Int):Bool:=(dz n).isPrefixOf l
theorem T6 {pre ys:List Int} {k:Int} (h:qH=pre++k :: ys):k=(pre.length:Int)+1∧1≤k∧k≤5∧dg k=ba (35 :: dz k)∧(dz k).length≤10:=by
 have h1:qH[pre.length]? = some k:=by rw[h]; simp
 have hl:pre.length < 5:=by
  have:(qH).length=5:=rfl
  have h2:=congrArg List.length h
  simp at h2
  omega
 have : ∀ i:Fin 5,∀ k,qH[i.val]? = some k→k=(i.val:Int)+1:=by
  intro i k h
  have : ∀ i:Fin 5,qH[i.val]? = some ((i.val:Int)+1):=by decide
  rw[this i] at h
  exact(Option.some.inj h).symm
 have e:=this ⟨pre.length,hl⟩ k h1
 simp only at e
 have f : ∀ i:Fin 5,dg ((i.val:Int)+1)=ba (35 :: dz ((i.val:Int)+1))∧(dz ((i.val:Int)+1)).length≤10:=by decide +kernel
 have:=f ⟨pre.length,hl⟩
 simp only at this
 rw[←e] at this
 exact⟨e,by omega,by omega,this.1,this.2⟩
theorem J0 {deep:Int} {l:ag} {b:Bool} {ns:List aa} (hl:l.length≤900) : ∀(ys pre:List Int),qH=pre++ys→d7 deep ((pre.length:Int)+1) (ba (35 :: l)) b ns=match ys.find? (gX l) with
  | some n=>bO (vE n) (ba (l.drop (dz n).length)) b ns
  | none=>d7 deep 6 (ba (35 :: l)) b ns
 | [],pre,h=>by
  have:pre.length=5:=by
   rw[List.append_nil] at h
   rw[←h]
   rfl
  rw[this]
  rfl
 | k :: ys,pre,h=>by
  obtain⟨e1,e2,e3,e4,e5⟩:=T6 h
  rw[←e1,sV,aF e3,tu (by omega) e3]
  simp only[Option.bind_some]
  rw[e4,s6 _ _ (by rw[List.length_cons]; omega)]
  simp only[Option.bind_some,List.find?_cons]
  have e6:(35 :: dz k:ag).isPrefixOf (35 :: l)=gX l k:=by simp[gX]
  rw[e6]
  cases hp:gX l k with
  | true =>
   simp only[if_true,gc,Option.bind_some,Dt,List.length_cons,List.drop_succ_cons]
  | false =>
   simp only[Bool.false_eq_true,if_false]
   rw[wr (by omega) (by omega)]
   have:=J0 (deep:=deep) (b:=b) (ns:=ns) hl ys (pre++[k]) (av h)
   rw[List.length_append,List.length_singleton] at this
   rw[show k+1=((pre.length+1:Nat):Int)+1 by omega]
   exact this
theorem J1 {s l:ag} {b:Bool} {ns:List aa} (hs:s.length≤900) (hl:l <:+ s) : ∀(ys pre:List Int),qH=pre++ys→jv ((pre.length:Int)+1) (ba s) (bT s l) b ns=match ys.find? (gX l) with
  | some n=>ce (nC (vE n)) (ba s) (bT s (l.drop (dz n).length)) b ns
  | none=>some ((0,()),((ba s,bT s l,true,ns,()),()))
 | [],pre,h=>by
  have:pre.length=5:=by
   rw[List.append_nil] at h
   rw[←h]
   rfl
  rw[this,vm,ax (by decide)]
  rfl
 | k :: ys,pre,h=>by
  obtain⟨e1,e2,e3,e4,e5⟩:=T6 h
  obtain⟨q,h1,h2⟩:=o0 hl
  have hq:q.length+l.length=s.length:=by rw[h1]; simp
  rw[←e1,vm,aF e3,Al (by omega) e3]
  simp only[Option.bind_some]
  rw[e4,show(1:Int)=((1:Nat):Int) from rfl,fR (by simp)]
  simp only[List.drop_succ_cons,List.drop_zero,ay,List.find?_cons]
  have ih:=J1 (b:=b) (ns:=ns) hs hl ys (pre++[k]) (av h)
  rw[List.length_append,List.length_singleton,show((pre.length+1:Nat):Int)+1=k+1 by omega] at ih
  have hw:IntKind.i64.wrap (k+((1:Nat):Int))=k+1:=wr (by omega) (by omega)
  rw[hw,h2,wr (by omega) (by omega)]
  by_cases hm:(dz k).length≤l.length
  ·rw[aF (by omega),show(q.length:Int)+((dz k).length:Int)=((q.length+(dz k).length:Nat):Int) by omega,yV (by omega) (by omega),dL]
   have e:(s.take (q.length+(dz k).length)).drop q.length=l.take (dz k).length:=by
    rw[h1,List.take_append,List.drop_append]
    simp
   have e7:decide (l.take (dz k).length=dz k)=gX l k:=by
    unfold gX
    rw[Bool.eq_iff_iff,decide_eq_true_eq,List.isPrefixOf_iff_prefix,List.prefix_iff_eq_take]
    exact eq_comm
   rw[e,e7]
   cases hp:gX l k with
   | true =>
    simp only[if_true,dU,Option.bind_some,hH]
    congr 1
    unfold bT
    rw[List.length_drop]
    omega
   | false =>
    simp only[Bool.false_eq_true,if_false]
    rw[←h2]
    exact ih
  ·rw[ax (by omega)]
   have hp:gX l k=false:=by
    rw[Bool.eq_false_iff]
    intro hp
    exact hm (Dr hp)
   rw[hp,←h2]
   exact ih
def dM (k:Int):ag:=([[],[83,85,77],[77,73,78],[77,65,88],[67,79,85,78,84],[73,70],[65,78,68],[79,82],[78,79,84],[65,66,83],[76,69,78]]:List ag).getD k.toNat []
abbrev mQ:List Int:=[1,2,3,4,5,6,7,8,9,10]
theorem T7 (k:Fin 11):List.getD ([(⟨#[]⟩:ByteArray),(⟨#[83,85,77]⟩:ByteArray),(⟨#[77,73,78]⟩:ByteArray),(⟨#[77,65,88]⟩:ByteArray),(⟨#[67,79,85,78,84]⟩:ByteArray),(⟨#[73,70]⟩:ByteArray),(⟨#[65,78,68]⟩:ByteArray),(⟨#[79,82]⟩:ByteArray),(⟨#[78,79,84]⟩:ByteArray),(⟨#[65,66,83]⟩:ByteArray),(⟨#[76,69,78]⟩:ByteArray)]:(List ByteArray)) k.val (⟨#[]⟩:ByteArray)=ba (dM (k.val:Int)):=by
 revert k
 decide +kernel
theorem Na {k:Int} (h0:0≤k) (h1:k≤10):KT k=some ((ba (dM k),()),()):=by
 rw[Vv,bD h0 (by show k < 11; omega)]
 have h:=T7 ⟨k.toNat,by omega⟩
 simp only[Int.toNat_of_nonneg h0] at h
 rw[h]
theorem Hg {k:Int} (h0:0≤k) (h1:k≤10):Db k=some ((ba (dM k),()),()):=by
 rw[Q4,bD h0 (by show k < 11; omega)]
 have h:=T7 ⟨k.toNat,by omega⟩
 simp only[Int.toNat_of_nonneg h0] at h
 rw[h]
theorem T8 {pre ys:List Int} {k:Int} (h:mQ=pre++k :: ys):k=(pre.length:Int)+1∧1≤k∧k≤10:=by
 have h1:mQ[pre.length]? = some k:=by rw[h]; simp
 have hl:pre.length < 10:=by
  have h2:=congrArg List.length h
  simp at h2
  omega
 have : ∀ i:Fin 10,mQ[i.val]? = some ((i.val:Int)+1):=by decide
 rw[this ⟨pre.length,hl⟩] at h1
 have e:=(Option.some.inj h1).symm
 simp only at e
 exact⟨e,by omega,by omega⟩
theorem Nb {deep:Int} {w l:ag} {b:Bool} {ns:List aa} : ∀(ys pre:List Int),mQ=pre++ys→en deep (ba w) ((pre.length:Int)+1) (ba l) b ns=match ys.find? (fun k=>decide (dM k=w)) with
  | some k=>gG k deep (ba l) b ns
  | none=>some ((-1,()),((ba l,ns,true,()),()))
 | [],pre,h=>by
  have:pre.length=10:=by
   rw[List.append_nil] at h
   rw[←h]
   rfl
  rw[this,qR,ax (by decide)]
  rfl
 | k :: ys,pre,h=>by
  obtain⟨e1,e2,e3⟩:=T8 h
  rw[←e1,qR,aF e3,Hg (by omega) e3]
  simp only[Option.bind_some,dL,List.find?_cons,Dt]
  by_cases hp:dM k=w
  ·rw[aF hp.symm]
   simp[hp]
  ·rw[ax (Ne.symm hp),wr (by omega) (by omega)]
   have:=Nb (deep:=deep) (w:=w) (l:=l) (b:=b) (ns:=ns) ys (pre++[k]) (av h)
   rw[List.length_append,List.length_singleton,show((pre.length+1:Nat):Int)+1=k+1 by omega] at this
   rw[this]
   simp[hp]
noncomputable def rz (w s:ag) (a:Int) (b:Bool) (ns:List aa):Option ((Int×Unit)×(lD×Unit)) :=
 if(bb w).2=true∧w≠[] then ce (nC (bb w).1) (ba s) a b ns
 else if(cN w).2=true then ce (2,0,(0,0,(⟨#[]⟩:ByteArray),()),(cN w).1,((0,0,()),false,false,()),([]:(List Int)),()) (ba s) a b ns
 else some ((0,()),((ba s,a,true,ns,()),()))
theorem R0 {w s:ag} {a:Int} {b:Bool} {ns:List aa} (hw:w.length≤1000):fZ (ba w) 11 (ba s) a b ns=rz w s a b ns:=by
 rw[vn,ax (by decide),oJ (by omega),tx (by omega)]
 simp only[Option.bind_some,hH]
 have e0:(ByteArray.toList (ba w) == ByteArray.toList (⟨#[]⟩:ByteArray))=decide (w=[]):=dL (b:=[])
 rw[e0]
 unfold rz
 cases (bb w).2 <;> by_cases hw0:w=[] <;> cases (cN w).2 <;> simp[hw0]
theorem Nc {w s:ag} {ns:List aa} (hw:w.length≤1000) (hs:s.length≤900) : ∀(ys pre:List Int) (l:ag),mQ=pre++ys→l <:+ s → ∃ l',(l'=l∨l'=bl l)∧fZ (ba w) ((pre.length:Int)+1) (ba s) (bT s l) false ns=match ys.find? (fun k=>decide (dM k=w) && ([40]:ag).isPrefixOf (bl l)) with
  | some k=>zQ k (ba s) (bT s ((bl l).drop 1)) false ns
  | none=>rz w s (bT s l') false ns
 | [],pre,l,h,hl=>by
  have:pre.length=10:=by
   rw[List.append_nil] at h
   rw[←h]
   rfl
  refine⟨l,.inl rfl,?_⟩
  rw[this]
  exact R0 hw
 | k :: ys,pre,l,h,hl=>by
  obtain⟨e1,e2,e3⟩:=T8 h
  have ih:=fun l' (hl':l' <:+ s)=>Nc (ns:=ns) hw hs ys (pre++[k]) l' (av h) hl'
  rw[List.length_append,List.length_singleton,show((pre.length+1:Nat):Int)+1=k+1 by omega] at ih
  rw[←e1,vn,aF e3,Na (by omega) e3]
  simp only[Option.bind_some,dL,List.find?_cons,hH]
  by_cases hp:dM k=w
  ·rw[aF hp,show(⟨#[40]⟩:ByteArray)=ba [40] from rfl,je (by omega) (by decide) hl]
   simp only[Option.bind_some,Bool.not_false,Bool.true_and,hp,decide_true]
   cases hq:([40]:ag).isPrefixOf (bl l) with
   | true=>exact⟨l,.inl rfl,rfl⟩
   | false =>
    simp only[Bool.false_eq_true,if_false]
    rw[wr (by omega) (by omega)]
    obtain⟨l',h1,h2⟩:=ih (bl l) (ak (aw l) hl)
    rw[dF] at h1 h2
    refine⟨l',.inr (by simpa using h1),?_⟩
    rw[h2,hq]
  ·rw[ax hp,wr (by omega) (by omega)]
   obtain⟨l',h1,h2⟩:=ih l hl
   refine⟨l',h1,?_⟩
   rw[h2]
   simp[hp]
theorem mR (p:UInt8→Bool) (l:ag):(l.takeWhile p).length≤l.length:=(List.takeWhile_prefix p).length_le
abbrev nP (p:bJ):aa:=(2,0,(0,0,(⟨#[]⟩:ByteArray),()),p,((0,0,()),false,false,()),([]:(List Int)),())
abbrev nA (p q:bJ):aa:=(3,0,(0,0,(⟨#[]⟩:ByteArray),()),p,q,([]:(List Int)),())
noncomputable def fh (deep:Int) (w r:ag) (b:Bool) (ns:List aa):Option ((Int×Unit)×(rh×Unit)) :=
 if(bb w).2=true∧((bb w).1.1=1∨(bb w).1.1=3) then bO (bb w).1 (ba r) b ns
 else if(cN w).2=true then aG (nP (cN w).1) (ba r) b ns
 else match mQ.find? (fun k=>decide (dM k=w)) with
  | some k=>gG k deep (ba r) b ns
  | none=>some ((-1,()),((ba r,ns,true,()),()))
theorem gP {F:Option ((Int×Unit)×(rh×Unit))}:(F.bind fun z3=>(some ((z3.1.1,()),(z3.2.1,()))))=F:=Dt
theorem T9 {deep:Int} {w l:ag} {b:Bool} {ns:List aa}:en deep (ba w) 1 (ba l) b ns=match mQ.find? (fun k=>decide (dM k=w)) with
  | some k=>gG k deep (ba l) b ns
  | none=>some ((-1,()),((ba l,ns,true,()),())):=Nb mQ [] rfl
theorem Y7 {deep:Int} {l:ag} {b:Bool} {ns:List aa} (hl:l.length≤900):d7 deep 6 (ba l) b ns=fh deep ((bl l).takeWhile aL) ((bl l).dropWhile aL) b ns:=by
 have h1:=aI (aw l)
 have h2:((bl l).takeWhile aL).length≤(bl l).length:=mR aL (bl l)
 rw[sV,ax (by decide),Az (by omega)]
 simp only[Option.bind_some]
 rw[lz (by omega),oI (by omega)]
 simp only[Option.bind_some,gP,T9]
 unfold fh
 cases (bb ((bl l).takeWhile aL)).2 with
 | false=>simp
 | true =>
  by_cases k1:(bb ((bl l).takeWhile aL)).1.1=1
  ·simp[k1]
  ·by_cases k3:(bb ((bl l).takeWhile aL)).1.1=3
   ·simp[k3]
   ·simp[k1,k3]
theorem rA {deep:Int} {l:ag} {b:Bool} {ns:List aa} (hl:l.length≤900):fK deep (ba l) b ns =
  if(bl l).head? = some 34 then kv (ba (bl l)) b ns
  else if(bl l).head? = some 35 then d7 deep 1 (ba (bl l)) b ns
  else if(bl l).head? = some 40 then((bo 1 (IntKind.i64.wrap (deep+1)) (ba ((bl l).drop 1)) b ns).bind fun z6=>(if z6.2.1.2.2.1=true then(some ((z6.1.1,()),((z6.2.1.1,z6.2.1.2.1,true,()),()))) else((bi (⟨#[41]⟩:ByteArray) z6.2.1.1 z6.2.1.2.2.1 z6.2.1.2.1).bind fun z7=>(some ((z6.1.1,()),((z7.2.1.1,z7.2.1.2.1,(!z7.1.1),()),()))))))
  else fh deep ((bl l).takeWhile aL) ((bl l).dropWhile aL) b ns:=by
 have h1:=aI (aw l)
 have h2:((bl l).takeWhile aL).length≤(bl l).length:=mR aL (bl l)
 rw[GM,nD]
 simp only[Option.bind_some]
 rw[show(⟨#[34]⟩:ByteArray)=ba [34] from rfl,s5 _ _ (by omega),show(⟨#[35]⟩:ByteArray)=ba [35] from rfl,s5 _ _ (by omega),show(⟨#[40]⟩:ByteArray)=ba [40] from rfl,cY (by omega)]
 simp only[Option.bind_some,gP,Fk,dF,ig (c:=40) (.inr (.inl rfl)),decide_eq_true_eq,List.length_singleton]
 by_cases c1:(bl l).head? = some 34
 ·rw[if_pos c1,if_pos c1]
 ·rw[if_neg c1,if_neg c1]
  by_cases c2:(bl l).head? = some 35
  ·rw[if_pos c2,if_pos c2]
  ·rw[if_neg c2,if_neg c2]
   by_cases c3:(bl l).head? = some 40
   ·rw[if_pos c3,if_pos c3,if_pos c3]
   ·rw[if_neg c3,if_neg c3,if_neg c3,Az (by omega),dF]
    simp only[Option.bind_some]
    rw[lz (by omega),oI (by omega)]
    simp only[Option.bind_some,gP,T9]
    unfold fh
    cases (bb ((bl l).takeWhile aL)).2 with
    | false=>simp
    | true =>
     by_cases k1:(bb ((bl l).takeWhile aL)).1.1=1
     ·simp[k1]
     ·by_cases k3:(bb ((bl l).takeWhile aL)).1.1=3
      ·simp[k3]
      ·simp[k1,k3]
def Bd (m:ag):Bool:=(cN (m.takeWhile aL)).2 && decide ((bl (m.dropWhile aL)).head? = some 58)
def ke (m:ag):ag:=bl ((bl (m.dropWhile aL)).drop 1)
theorem Fw {l:ag} {b:Bool} {ns:List aa} (hl:l.length≤900):kY (ba l) b ns =
  if Bd (bl l)=true then some ((nA (cN ((bl l).takeWhile aL)).1 (cN ((ke (bl l)).takeWhile aL)).1,true,()),((ba ((ke (bl l)).dropWhile aL),ns,(b || !(cN ((ke (bl l)).takeWhile aL)).2),()),()))
  else some (((0,0,(0,0,(⟨#[]⟩:ByteArray),()),((0,0,()),false,false,()),((0,0,()),false,false,()),([]:(List Int)),()),false,()),((ba l,ns,b,()),())):=by
 have h1:=aI (aw l)
 have h2:((bl l).takeWhile aL).length≤(bl l).length:=mR aL (bl l)
 have h3:=JU aL (bl l)
 have h4:=aI (aw ((bl l).dropWhile aL))
 have h5:((bl ((bl l).dropWhile aL)).drop 1).length≤(bl ((bl l).dropWhile aL)).length:=aI (gu 1 _)
 have h6:=aI (aw ((bl ((bl l).dropWhile aL)).drop 1))
 have h7:((ke (bl l)).takeWhile aL).length≤(ke (bl l)).length:=mR aL _
 have h8:(ke (bl l)).length≤((bl ((bl l).dropWhile aL)).drop 1).length:=h6
 rw[Bl,Az (by omega)]
 simp only[Option.bind_some]
 rw[oI (by omega)]
 simp only[Option.bind_some]
 unfold Bd
 cases hp:(cN ((bl l).takeWhile aL)).2 with
 | false=>simp
 | true =>
  simp only[if_true,Bool.true_and]
  rw[show(⟨#[58]⟩:ByteArray)=ba [58] from rfl,cY (by omega)]
  simp only[Option.bind_some,ig (c:=58) (.inr (.inr (.inr (.inr rfl)))),List.length_singleton]
  by_cases hc:(bl ((bl l).dropWhile aL)).head? = some 58
  ·simp only[hc,decide_true,Bool.not_true,Bool.false_eq_true,if_false,if_true]
   rw[Az (by omega)]
   simp only[Option.bind_some]
   rw[show bl ((bl ((bl l).dropWhile aL)).drop 1)=ke (bl l) from rfl,oI (by omega)]
   simp only[Option.bind_some]
   cases b <;> simp
  ·simp only[hc,decide_false,Bool.not_false,if_true,Bool.false_eq_true,if_false]
abbrev RI:=Option ((Int×Unit)×(rh×Unit))
def xc (x:aa):Bool:=decide (x.2.2.1.2.2.1.size≤100000) && decide (x.2.2.2.2.2.1.length≤100000)
def sm (ns:List aa):Bool:=ns.all xc
def hJ (l:ag) (b:Bool) (ns:List aa) (F:RI):Prop :=
 ∃(i:Int) (l':ag) (b':Bool) (ns':List aa),F=some ((i,()),((ba l',ns',b',()),()))∧l' <:+ l∧(b=true→b'=true)∧ns <+: ns'∧ns'.length≤60∧(sm ns=true→sm ns'=true)
theorem hJ.mono {l l0:ag} {b b0:Bool} {ns ns0:List aa} {F:RI} (h:hJ l b ns F) (h1:l <:+ l0) (h2:b0=true→b=true) (h3:ns0 <+: ns) (h4:sm ns0=true→sm ns=true:=by exact id):hJ l0 b0 ns0 F:=by
 obtain⟨i,l',b',ns',e,k1,k2,k3,k4,k5⟩:=h
 exact⟨i,l',b',ns',e,ak k1 h1,fun h=>k2 (h2 h),List.IsPrefix.trans h3 k3,k4,fun h=>k5 (h4 h)⟩
theorem pc (l:ag):l <:+ l:=List.suffix_refl l
theorem fA {x:aa} {l:ag} {b:Bool} {ns:List aa} (hn:ns.length≤60) (hx:xc x=true:=by rfl):hJ l b ns (aG x (ba l) b ns):=by
 obtain⟨i,h,_⟩:=zg (x:=x) (l:=l) (b:=b) hn
 refine⟨i,l,_,_,h,pc l,(fun hb=>by rw[hb]; rfl),?_,?_,?_⟩
 ·split
  ·exact⟨[x],rfl⟩
  ·exact List.prefix_refl _
 ·split
  ·rename_i h
   rw[List.length_append,List.length_singleton]
   omega
  ·exact hn
 ·intro hs
  split
  ·unfold sm at hs ⊢
   rw[List.all_append,hs]
   simp[hx]
  ·exact hs
theorem PW {v:ab} (h:v.2.2.1.size≤100000):xc (nC v)=true:=by
 unfold xc
 rw[decide_eq_true h]
 rfl
theorem Hh {op:Int} {y:List Int} (h:y.length≤100000):xc (6,op,(0,0,(⟨#[]⟩:ByteArray),()),((0,0,()),false,false,()),((0,0,()),false,false,()),y,())=true:=by
 unfold xc
 rw[Bool.and_eq_true]
 exact⟨rfl,decide_eq_true h⟩
theorem jO {v:ab} {r:ByteArray} {b:Bool} {ns:List aa}:bO v r b ns=aG (nC v) r b ns:=by
 rw[Bj]
 exact gP
theorem zh {i:Int} {l:ag} {b:Bool} {ns:List aa} (hn:ns.length≤60):hJ l b ns (some ((i,()),((ba l,ns,true,()),()))) :=
 ⟨i,l,true,ns,rfl,pc l,fun _=>rfl,List.prefix_refl _,hn,id⟩
theorem iy {l:ag} {c:UInt8} (h:l.head? = some c) : ∃ t,l=c :: t:=by
 cases l with
 | nil=>cases h
 | cons y t =>
  simp only[List.head?_cons,Option.some.injEq] at h
  exact⟨t,by rw[h]⟩
theorem pd {l:ag} {c:UInt8} (h:(bl l).head? = some c):((bl l).drop 1).length < l.length:=by
 have:=aI (aw l)
 obtain⟨t,ht⟩:=iy h
 rw[ht] at this ⊢
 simp only[List.length_cons,List.drop_succ_cons,List.drop_zero] at this ⊢
 omega
theorem iz (l:ag):(bl l).drop 1 <:+ l:=ak (gu 1 _) (aw l)
theorem Nd (l:ag):(bl l).dropWhile aL <:+ l:=ak (List.dropWhile_suffix _) (aw l)
theorem Ir (l:ag):(ke (bl l)).dropWhile aL <:+ l :=
 ak (List.dropWhile_suffix _) (ak (aw _) (ak (gu 1 _) (ak (aw _) (Nd l))))
section
variable {n:Nat} (HB : ∀ l:ag,l.length < n → ∀(deep least:Int) (b:Bool) (ns:List aa),0≤deep→deep+(l.length:Int)≤400→ns.length≤60→hJ l b ns (bo least deep (ba l) b ns))
include HB
theorem J2 : ∀(m:Nat) (l:ag) (op deep:Int) (b:Bool) (kids:List Int) (ns:List aa),l.length=m→l.length < n→0≤deep→deep+1+(l.length:Int)≤400→kids.length+l.length≤10000→ns.length≤60→hJ l b ns (bZ op deep (ba l) b kids ns):=by
 intro m
 induction m using Nat.strongRecOn with
 | ind m ih =>
  intro l op deep b kids ns hm hln hd0 hd hk hn
  subst hm
  rw[jg]
  cases b with
  | true =>
   simp only[Bool.not_true,Bool.false_eq_true,if_false,gP]
   exact fA hn (Hh (by omega))
  | false =>
   have tail : ∀(l2:ag) (b2:Bool) (ns2:List aa) (y:List Int),l2 <:+ l→ns <+: ns2→ns2.length≤60→y.length=kids.length+1→(sm ns=true→sm ns2=true) →
     hJ l false ns ((bi (⟨#[44]⟩:ByteArray) (ba l2) b2 ns2).bind fun z3=>(if(!z3.1.1)=true then(if z3.2.1.2.2.1=true then((aG (6,op,(0,0,(⟨#[]⟩:ByteArray),()),((0,0,()),false,false,()),((0,0,()),false,false,()),y,()) z3.2.1.1 true z3.2.1.2.1).bind fun z4=>(some ((z4.1.1,()),(z4.2.1,())))) else((bi (⟨#[41]⟩:ByteArray) z3.2.1.1 z3.2.1.2.2.1 z3.2.1.2.1).bind fun z5=>((aG (6,op,(0,0,(⟨#[]⟩:ByteArray),()),((0,0,()),false,false,()),((0,0,()),false,false,()),y,()) z5.2.1.1 (!z5.1.1) z5.2.1.2.1).bind fun z6=>(some ((z6.1.1,()),(z6.2.1,())))))) else(bZ op deep z3.2.1.1 z3.2.1.2.2.1 y z3.2.1.2.1))):=by
    intro l2 b2 ns2 y hs hp hn2 hy hsm
    have hl2:=aI hs
    rw[show(⟨#[44]⟩:ByteArray)=ba [44] from rfl,cY (by omega)]
    simp only[Option.bind_some,ig (c:=44) (.inr (.inr (.inr (.inl rfl)))),gP,List.length_singleton]
    by_cases hc:(bl l2).head? = some 44
    ·have hlt:=pd hc
     simp only[hc,decide_true,Bool.not_true,Bool.false_eq_true,if_false,if_true]
     exact(ih _ (by omega) _ op deep b2 y ns2 rfl (by omega) hd0 (by omega) (by omega) hn2).mono (ak (iz l2) hs) (fun h=>by cases h) hp hsm
    ·simp only[hc,decide_false,Bool.not_false,if_true,if_false]
     have hbl:=aI (aw l2)
     cases b2 with
     | true =>
      simp only[if_true]
      exact(fA hn2 (Hh (by omega))).mono (ak (aw l2) hs) (fun h=>by cases h) hp hsm
     | false =>
      simp only[Bool.false_eq_true,if_false]
      rw[show(⟨#[41]⟩:ByteArray)=ba [41] from rfl,cY (by omega)]
      simp only[Option.bind_some,gP]
      refine(fA hn2 (Hh (by omega))).mono ?_ (fun h=>by cases h) hp hsm
      split
      ·exact ak (ak (gu _ _) (aw _)) (ak (aw l2) hs)
      ·exact ak (aw _) (ak (aw l2) hs)
   simp only[Bool.not_false,if_true]
   rw[Fw (by omega)]
   by_cases ha:Bd (bl l)=true
   ·rw[if_pos ha]
    simp only[Option.bind_some,if_true]
    obtain⟨i2,l2,b2,ns2,h2,k1,k2,k3,k4,k5⟩:=fA (x:=nA (cN ((bl l).takeWhile aL)).1 (cN ((ke (bl l)).takeWhile aL)).1) (l:=(ke (bl l)).dropWhile aL) (b:=(false || !(cN ((ke (bl l)).takeWhile aL)).2)) hn
    rw[h2]
    simp only[Option.bind_some]
    rw[bp (by simp only[List.length_singleton]; omega)]
    exact tail _ _ _ _ (ak k1 (Ir l)) k3 k4 (by simp) k5
   ·rw[if_neg ha]
    simp only[Option.bind_some,Bool.false_eq_true,if_false]
    rw[wr (by omega) (by omega)]
    obtain⟨i2,l2,b2,ns2,h2,k1,k2,k3,k4,k5⟩:=HB l hln (deep+1) 1 false ns (by omega) hd hn
    rw[h2]
    simp only[Option.bind_some]
    rw[bp (by simp only[List.length_singleton]; omega)]
    exact tail _ _ _ _ k1 k3 k4 (by simp) k5
theorem V5 {l:ag} {op deep:Int} {b:Bool} {ns:List aa} (hln:l.length < n) (hd0:0≤deep) (hd:deep+1+(l.length:Int)≤400) (hn:ns.length≤60):hJ l b ns (gG op deep (ba l) b ns):=by
 rw[qu]
 cases b with
 | true =>
  rw[if_pos rfl,Cb]
  simp only[Bool.not_true,Bool.false_eq_true,if_false,gP]
  exact fA hn (Hh (by simp))
 | false =>
  rw[if_neg (by decide),show(⟨#[40]⟩:ByteArray)=ba [40] from rfl,cY (by omega)]
  simp only[Option.bind_some]
  have hs:(if sg (bl l)=[40] then(bl l).drop ([40]:ag).length else bl l) <:+ l:=by
   split
   ·exact iz l
   ·exact aw l
  have:=aI hs
  exact(J2 HB _ _ op deep _ [] ns rfl (by omega) hd0 (by omega) (by simp only[List.length_nil]; omega) hn).mono hs (fun h=>by cases h) (List.prefix_refl _)
theorem V6 {deep:Int} {w r:ag} {b:Bool} {ns:List aa} (hln:mQ.find? (fun k=>decide (dM k=w))≠none→r.length < n∧deep+1+(r.length:Int)≤400) (hd0:0≤deep) (hn:ns.length≤60):hJ r b ns (fh deep w r b ns):=by
 unfold fh
 split
 ·rename_i hc
  rw[jO]
  exact fA hn (PW (Nat.le_trans (dj (oZ hc.1).1) (by decide)))
 ·split
  ·exact fA hn
  ·cases hf:mQ.find? (fun k=>decide (dM k=w)) with
   | some k =>
    obtain⟨h1,h2⟩:=hln (by rw[hf]; simp)
    exact V5 HB h1 hd0 h2 hn
   | none=>exact zh hn
end
theorem PX {w:ag} (h:mQ.find? (fun k=>decide (dM k=w))≠none) : ∃ k,mQ.find? (fun k=>decide (dM k=w))=some k∧dM k=w∧k∈mQ∧w≠[]:=by
 cases hf:mQ.find? (fun k=>decide (dM k=w)) with
 | none=>exact absurd hf h
 | some k =>
  have h1:=List.find?_some hf
  have h2:=List.mem_of_find?_eq_some hf
  have h3:dM k=w:=by simpa using h1
  refine⟨k,rfl,h3,h2,?_⟩
  have : ∀ k∈mQ,dM k≠[]:=by decide
  rw[←h3]
  exact this k h2
theorem PY {l:ag} (h:(bl l).takeWhile aL≠[]):((bl l).dropWhile aL).length < l.length:=by
 have h1:=aI (aw l)
 have h2:=congrArg List.length (List.takeWhile_append_dropWhile (p:=aL) (l:=bl l))
 rw[List.length_append] at h2
 have h3:=List.length_pos_iff.2 h
 omega
theorem R3 {l:ag} {b:Bool} {ns:List aa} (hl:l.length≤900) (hn:ns.length≤60):hJ (34 :: l) b ns (kv (ba (34 :: l)) b ns):=by
 rw[AC hl]
 cases hq:qt l with
 | none=>exact zh hn
 | some p =>
  obtain⟨h1,h2,_⟩:=T5 l p.1 p.2 hq
  show hJ _ b ns (bO _ _ b ns)
  rw[jO]
  refine(fA hn (PW ?_)).mono (ak h1 ⟨[34],rfl⟩) id (List.prefix_refl _)
  show(ba ([]++p.1)).size≤_
  rw[ay]
  simp only[List.nil_append]
  omega
theorem J3 (l:ag):(bl (35 :: l)).takeWhile aL=[]∧(bl (35 :: l)).dropWhile aL=35 :: l:=by
 have h1:bl (35 :: l)=35 :: l:=List.dropWhile_cons_of_neg (by decide)
 rw[h1]
 exact⟨List.takeWhile_cons_of_neg (by decide),List.dropWhile_cons_of_neg (by decide)⟩
theorem It {deep:Int} {l:ag} {b:Bool} {ns:List aa} (hl:l.length≤800):d7 deep 1 (ba (35 :: l)) b ns=match qH.find? (gX l) with
  | some n=>bO (vE n) (ba (l.drop (dz n).length)) b ns
  | none=>some ((-1,()),((ba (35 :: l),ns,true,()),())):=by
 have h:=J0 (deep:=deep) (l:=l) (b:=b) (ns:=ns) (by omega) qH [] rfl
 have h:d7 deep 1 (ba (35 :: l)) b ns=_:=h
 rw[h]
 cases qH.find? (gX l) with
 | some n=>rfl
 | none =>
  simp only
  rw[Y7 (by rw[List.length_cons]; omega),(J3 l).1,(J3 l).2]
  have e1 : ¬((bb []).2=true∧((bb []).1.1=1∨(bb []).1.1=3)):=by decide +kernel
  have e2 : ¬(cN []).2=true:=by decide +kernel
  have e3:mQ.find? (fun k=>decide (dM k=[]))=none:=by decide +kernel
  unfold fh
  rw[if_neg e1,if_neg e2,e3]
theorem V7 {l:ag} (HB : ∀ l':ag,l'.length < l.length → ∀(deep least:Int) (b:Bool) (ns:List aa),0≤deep→deep+(l'.length:Int)≤400→ns.length≤60→hJ l' b ns (bo least deep (ba l') b ns))
  {deep:Int} {b:Bool} {ns:List aa} (hd0:0≤deep) (hd:deep+(l.length:Int)≤400) (hn:ns.length≤60):hJ l b ns (fK deep (ba l) b ns):=by
 have hbl:=aI (aw l)
 rw[rA (by omega)]
 by_cases c1:(bl l).head? = some 34
 ·rw[if_pos c1]
  obtain⟨t,ht⟩:=iy c1
  have htl:t.length+1=(bl l).length:=by rw[ht]; simp
  rw[ht]
  exact(R3 (by omega) hn).mono (by rw[←ht]; exact aw l) id (List.prefix_refl _)
 ·rw[if_neg c1]
  by_cases c2:(bl l).head? = some 35
  ·rw[if_pos c2]
   obtain⟨t,ht⟩:=iy c2
   have htl:t.length+1=(bl l).length:=by rw[ht]; simp
   have hts:t <:+ l:=ak ⟨[35],by rw[ht]; rfl⟩ (aw l)
   rw[ht,It (by omega)]
   cases qH.find? (gX t) with
   | some n =>
    simp only
    rw[jO]
    exact(fA hn (PW (by show eS.size≤_; decide))).mono (ak (gu _ _) hts) id (List.prefix_refl _)
   | none=>exact(zh hn).mono (by rw[←ht]; exact aw l) id (List.prefix_refl _)
  ·rw[if_neg c2]
   by_cases c3:(bl l).head? = some 40
   ·rw[if_pos c3]
    have hlt:=pd c3
    rw[wr (by omega) (by omega)]
    obtain⟨i2,l2,b2,ns2,h2,k1,k2,k3,k4,k5⟩:=HB _ hlt (deep+1) 1 b ns (by omega) (by omega) hn
    rw[h2]
    simp only[Option.bind_some]
    have hl2:=aI k1
    have hs2:l2 <:+ l:=ak k1 (iz l)
    cases b2 with
    | true =>
     simp only[if_true]
     exact⟨i2,l2,true,ns2,rfl,hs2,fun _=>rfl,k3,k4,k5⟩
    | false =>
     simp only[Bool.false_eq_true,if_false]
     rw[show(⟨#[41]⟩:ByteArray)=ba [41] from rfl,cY (by omega)]
     simp only[Option.bind_some]
     refine⟨i2,_,_,ns2,rfl,?_,(fun h=>by have:=k2 h; cases this),k3,k4,k5⟩
     split
     ·exact ak (ak (gu _ _) (aw _)) hs2
     ·exact ak (aw _) hs2
   ·rw[if_neg c3]
    refine(V6 HB (fun h => ?_) hd0 hn).mono (Nd l) id (List.prefix_refl _)
    obtain⟨k,_,_,_,hw⟩:=PX h
    have:=PY hw
    omega
theorem Ua : ∀(m:Nat) (l:ag),l.length=m→(∀ l':ag,l'.length < l.length → ∀(deep least:Int) (b:Bool) (ns:List aa),0≤deep→deep+(l'.length:Int)≤400→ns.length≤60→hJ l' b ns (bo least deep (ba l') b ns)) →
  ∀(deep:Int) (b:Bool) (ns:List aa),0≤deep→deep+(l.length:Int)≤400→ns.length≤60→hJ l b ns (fa deep (ba l) b ns):=by
 intro m
 induction m using Nat.strongRecOn with
 | ind m ih =>
  intro l hm HB deep b ns hd0 hd hn
  subst hm
  rw[k8,ax (by omega)]
  cases b with
  | true =>
   simp only[if_true]
   exact zh hn
  | false =>
   simp only[Bool.false_eq_true,if_false,gP]
   rw[show(⟨#[45]⟩:ByteArray)=ba [45] from rfl,cY (by omega)]
   simp only[Option.bind_some,ig (c:=45) (.inl rfl),List.length_singleton]
   have hbl:=aI (aw l)
   by_cases hc:(bl l).head? = some 45
   ·have hlt:=pd hc
    simp only[hc,decide_true,if_true]
    rw[wr (by omega) (by omega)]
    obtain⟨i2,l2,b2,ns2,h2,k1,k2,k3,k4,k5⟩:=ih _ hlt _ rfl (fun l' h'=>HB l' (by omega)) (deep+1) false ns (by omega) (by omega) hn
    rw[h2]
    simp only[Option.bind_some]
    exact(fA k4).mono (ak k1 (iz l)) (fun h=>by cases h) k3 k5
   ·simp only[hc,decide_false,Bool.false_eq_true,if_false]
    exact(V7 (l:=bl l) (fun l' h'=>HB l' (by omega)) hd0 (by omega) hn).mono (aw l) id (List.prefix_refl _)
theorem zi {least deep left:Int} {op:Int} {l:ag} {ns:List aa} (ho:0≤op) (ho2:op≤11) (hl:l.length≤900) (hs:op≠0→sg (bl l)=du op):cx least deep left op 12 (ba l) false ns =
  if op=0∨cn op < least then some ((left,()),((ba l,ns,false,()),()))
  else((bo (cn op+1) deep (ba ((bl l).drop (du op).length)) false ns).bind fun z7=>((aG (5,op,(0,0,(⟨#[]⟩:ByteArray),()),((0,0,()),false,false,()),((0,0,()),false,false,()),([left,z7.1.1]:(List Int)),()) z7.2.1.1 z7.2.1.2.2.1 z7.2.1.2.1).bind fun z8=>(cw least deep z8.1.1 z8.2.1.1 z8.2.1.2.2.1 z8.2.1.2.1))):=by
 rw[qx,ax (by decide)]
 by_cases h0:op=0
 ·rw[if_pos (by rw[h0]; rfl),if_pos (.inl h0)]
 ·have h0' : ¬(op == 0)=true:=by simpa using h0
  have hlv:1≤cn op∧cn op≤4:=by
   unfold cn
   repeat' split
   all_goals omega
  rw[if_neg h0',JY (by omega) ho2]
  simp only[Option.bind_some]
  by_cases h1:cn op < least
  ·rw[aF h1,if_pos (.inr h1)]
  ·rw[ax h1,if_neg (by omega),Ay ho ho2]
   simp only[Option.bind_some]
   rw[cY (by omega),hs h0]
   simp only[Option.bind_some,if_true]
   rw[wr (by omega) (by omega)]
theorem Nf {l:ag} (h:ez (bl l)≠0):((bl l).drop (du (ez (bl l))).length).length < l.length:=by
 have h1:=aI (aw l)
 have h2:=ry h
 have h3:=Dr (M3 (bl l))
 have h4:1≤(du (ez (bl l))).length:=by
  have:=mP (bl l)
  have h5 : ∀ k:Fin 12,k.val≠0→1≤(du (k.val:Int)).length:=by decide
  have:=h5 ⟨(ez (bl l)).toNat,by omega⟩ (by simp only; omega)
  simp only[Int.toNat_of_nonneg (mP (bl l)).1] at this
  exact this
 rw[h2] at h3
 rw[List.length_drop]
 omega
theorem AD : ∀(m:Nat) (l:ag),l.length=m→(∀ l':ag,l'.length < l.length → ∀(deep least:Int) (b:Bool) (ns:List aa),0≤deep→deep+(l'.length:Int)≤400→ns.length≤60→hJ l' b ns (bo least deep (ba l') b ns)) →
  ∀(least deep left:Int) (b:Bool) (ns:List aa),0≤deep→deep+(l.length:Int)≤400→ns.length≤60→hJ l b ns (cw least deep left (ba l) b ns):=by
 intro m
 induction m using Nat.strongRecOn with
 | ind m ih =>
  intro l hm HB least deep left b ns hd0 hd hn
  subst hm
  rw[fN]
  cases b with
  | true=>exact zh hn
  | false =>
   simp only[Bool.not_false,if_true]
   have hbl:=aI (aw l)
   obtain⟨o1,o2⟩:=mP (bl l)
   rw[vG (by omega),zi o1 o2 (by omega) (fun h=>by rw[dF]; exact ry h),dF]
   split
   ·exact⟨left,bl l,false,ns,rfl,aw l,fun h=>h,List.prefix_refl _,hn,id⟩
   ·rename_i hop
    have hop':ez (bl l)≠0:=fun e=>hop (.inl e)
    have hlt:=Nf hop'
    obtain⟨i2,l2,b2,ns2,h2,k1,k2,k3,k4,k5⟩:=HB _ hlt deep (cn (ez (bl l))+1) false ns hd0 (by omega) hn
    rw[h2]
    simp only[Option.bind_some]
    obtain⟨i3,l3,b3,ns3,h3,j1,j2,j3,j4,j5⟩:=fA (x:=(5,ez (bl l),(0,0,(⟨#[]⟩:ByteArray),()),((0,0,()),false,false,()),((0,0,()),false,false,()),([left,i2]:(List Int)),())) (l:=l2) (b:=b2) k4
    rw[h3]
    simp only[Option.bind_some]
    have hs2:=aI k1
    have hs3:=aI j1
    exact(ih _ (by omega) l3 rfl (fun l' h'=>HB l' (by omega)) least deep i3 b3 ns3 hd0 (by omega) j4).mono (ak j1 (ak k1 (ak (gu _ _) (aw l)))) (fun h=>by cases h) (List.IsPrefix.trans k3 j3) (fun h=>j5 (k5 h))
theorem R4 : ∀(m:Nat) (l:ag),l.length=m → ∀(deep least:Int) (b:Bool) (ns:List aa),0≤deep→deep+(l.length:Int)≤400→ns.length≤60→hJ l b ns (bo least deep (ba l) b ns):=by
 intro m
 induction m using Nat.strongRecOn with
 | ind m ih =>
  intro l hm deep least b ns hd0 hd hn
  subst hm
  have HB : ∀ l':ag,l'.length < l.length → ∀(deep least:Int) (b:Bool) (ns:List aa),0≤deep→deep+(l'.length:Int)≤400→ns.length≤60→hJ l' b ns (bo least deep (ba l') b ns) :=
   fun l' h' deep least b ns d0 d1 hn=>ih _ h' l' rfl deep least b ns d0 d1 hn
  rw[nS]
  obtain⟨i2,l2,b2,ns2,h2,k1,k2,k3,k4,k5⟩:=Ua _ l rfl HB deep b ns hd0 hd hn
  rw[h2]
  simp only[Option.bind_some]
  have hs2:=aI k1
  exact(AD _ l2 rfl (fun l' h'=>HB l' (by omega)) least deep i2 b2 ns2 hd0 (by omega) k4).mono k1 k2 k3 k5
abbrev RS:=Option ((Int×Unit)×(lD×Unit))
def dQ (ns:List aa):Bool:=ns.all df
theorem Ub {ns ns':List aa} (h:ns <+: ns') (k:dQ ns=false):dQ ns'=false:=by
 obtain⟨r,rfl⟩:=h
 unfold dQ at k ⊢
 rw[List.all_append,k]
 rfl
def Dm (b:Bool) (ns:List aa):Prop:=(b=true∨dQ ns=false)∧sm ns=true
theorem J4 {x:aa} (h:df x=true):xc x=true:=by
 have:x.2.2.1.2.2.1.size≤100000∧x.2.2.2.2.2.1.length≤100000:=by
  unfold df kl at h
  split at h
  ·simp only[Bool.and_eq_true,decide_eq_true_eq] at h
   have:=dj h.1.1.2
   omega
  ·split at h
   ·simp only[Bool.and_eq_true,decide_eq_true_eq] at h
    rw[h.1.1.1.2]
    exact⟨by decide,by omega⟩
   ·split at h
    ·simp only[Bool.and_eq_true,decide_eq_true_eq] at h
     rw[h.1.1.2]
     exact⟨by decide,by omega⟩
    ·split at h
     ·simp only[Bool.and_eq_true,decide_eq_true_eq] at h
      rw[h.1.1.1.2]
      exact⟨by decide,by omega⟩
     ·split at h
      ·simp only[Bool.and_eq_true,decide_eq_true_eq] at h
       rw[h.1.1.1.2]
       exact⟨by decide,by omega⟩
      ·split at h
       ·simp only[Bool.and_eq_true,decide_eq_true_eq] at h
        rw[h.1.1.2]
        refine⟨by decide,?_⟩
        have h2:=h.1.1.1
        unfold kG at h2
        split at h2
        ·simp only[Bool.or_eq_true,decide_eq_true_eq] at h2
         omega
        ·split at h2
         ·have:=bu.1 h2
          omega
         ·split at h2
          ·simp only[decide_eq_true_eq] at h2
           omega
          ·cases h2
       ·cases h
 unfold xc
 rw[decide_eq_true this.1,decide_eq_true this.2]
 rfl
theorem vI {ns:List aa} (h:dQ ns=true):sm ns=true:=by
 unfold dQ at h
 unfold sm
 rw[List.all_eq_true] at h ⊢
 exact fun x hx=>J4 (h x hx)
theorem Hi {ns:List aa} (h:dQ ns=true):Dm true ns:=⟨.inl rfl,vI h⟩
theorem hJ.dm {l:ag} {b:Bool} {ns:List aa} {F:RI} (h:hJ l b ns F) (hd:Dm b ns) : ∃(i:Int) (l':ag) (b':Bool) (ns':List aa),F=some ((i,()),((ba l',ns',b',()),()))∧l' <:+ l∧Dm b' ns'∧ns'.length≤60:=by
 obtain⟨i,l',b',ns',e,k1,k2,k3,k4,k5⟩:=h
 exact⟨i,l',b',ns',e,k1,⟨hd.1.elim (fun h => .inl (k2 h)) (fun h => .inr (Ub k3 h)),k5 hd.2⟩,k4⟩
def ou (s m:ag) (L:Int) (F:RI) (G:RS):Prop :=
 (∃(i:Int) (l1 l2:ag) (ns:List aa),F=some ((i,()),((ba l1,ns,false,()),()))∧G=some ((i,()),((ba s,bT s l2,false,ns,()),()))∧bl l1=bl l2∧l1 <:+ m∧l2 <:+ m∧dQ ns=true∧ns.length≤60∧(ez (bl l1)=0∨cn (ez (bl l1)) < L))
 ∨ (∃(i:Int) (l1:ag) (b1:Bool) (ns1:List aa) (j:Int) (l2:ag) (ns2:List aa),F=some ((i,()),((ba l1,ns1,b1,()),()))∧Dm b1 ns1∧l1 <:+ m∧ns1.length≤60∧G=some ((j,()),((ba s,bT s l2,true,ns2,()),()))∧l2 <:+ s∧ns2.length≤61+m.length)
theorem R5 (k:Int):cn k < 5:=by
 unfold cn
 repeat' split
 all_goals omega
theorem ou.mono {s m m':ag} {L:Int} {F:RI} {G:RS} (h:ou s m L F G) (hm:m <:+ m'):ou s m' L F G:=by
 have:=aI hm
 rcases h with⟨i,l1,l2,ns,e1,e2,h1,h2,h3,h4,h5,h6⟩ | ⟨i,l1,b1,ns1,j,l2,ns2,e1,h1,h2,h3,e2,h4,h5⟩
 ·exact .inl ⟨i,l1,l2,ns,e1,e2,h1,ak h2 hm,ak h3 hm,h4,h5,h6⟩
 ·exact .inr ⟨i,l1,b1,ns1,j,l2,ns2,e1,h1,ak h2 hm,h3,e2,h4,by omega⟩
theorem PZ {ns:List aa} {x:aa} (h:sm ns=true) (hx:xc x=true):sm (ns++[x])=true:=by
 unfold sm at h ⊢
 rw[List.all_append,h]
 simp[hx]
theorem Ng {x:aa} (h:xc x=true):x.2.2.1.2.2.1.size≤9223372036854775807:=by
 unfold xc at h
 rw[Bool.and_eq_true,decide_eq_true_eq] at h
 exact Nat.le_trans h.1 (by decide)
theorem rB {s m l1 l2:ag} {x:aa} {ns:List aa} (hsx:xc x=true) (h1:bl l1=bl l2) (k1:l1 <:+ m) (k2:l2 <:+ m) (hms:m <:+ s) (ho:dQ ns=true) (hn:ns.length≤60) :
  ou s m 5 (aG x (ba l1) false ns) (ce x (ba s) (bT s l2) false ns):=by
 have hx:=Ng hsx
 obtain⟨i,e,hi⟩:=zg (x:=x) (l:=l1) (b:=false) hn
 rw[e,Ip (by omega) hx]
 by_cases hlt:ns.length < 60
 ·have hi:=hi rfl hlt
  subst hi
  have d60:decide (60≤ns.length)=false:=decide_eq_false (by omega)
  rw[d60,if_pos ⟨rfl,hlt⟩]
  simp only[Bool.false_or]
  cases hk:df x with
  | true =>
   refine .inl ⟨_,l1,l2,ns++[x],rfl,rfl,h1,k1,k2,?_,?_,.inr (R5 _)⟩
   ·unfold dQ at ho ⊢
    rw[List.all_append,ho]
    simp[hk]
   ·rw[List.length_append,List.length_singleton]; omega
  | false =>
   refine .inr ⟨_,l1,false,ns++[x],(ns.length:Int),l2,ns++[x],rfl,⟨.inr ?_,PZ (vI ho) hsx⟩,k1,?_,rfl,ak k2 hms,?_⟩
   ·unfold dQ
    rw[List.all_append]
    simp[hk]
   ·rw[List.length_append,List.length_singleton]; omega
   ·rw[List.length_append,List.length_singleton]; omega
 ·have d60:decide (60≤ns.length)=true:=decide_eq_true (by omega)
  rw[d60,if_neg (by omega)]
  refine .inr ⟨i,l1,true,ns,(ns.length:Int),l2,ns++[x],rfl,Hi ho,k1,hn,?_,ak k2 hms,?_⟩
  ·simp
  ·rw[List.length_append,List.length_singleton]; omega
theorem Nh {s:ag} {a:Int} {x:aa} {ns:List aa} (hn:ns.length≤1000) (hx:x.2.2.1.2.2.1.size≤9223372036854775807):ce x (ba s) a true ns=some (((ns.length:Int),()),((ba s,a,true,ns++[x],()),())):=by
 rw[Ip hn hx]
 rfl
theorem R6 {op:Int} {s:ByteArray} {a:Int} {b:Bool} {ns:List aa} {kids:List Int}:tt op s a b ns kids=dp op s a b kids ns:=by
 rw[Fg,nT]
theorem J5 {op:Int} {s:ByteArray} {a:Int} {ns:List aa} {kids:List Int}:dp op s a true kids ns=some ((0,()),((s,a,true,ns,()),())):=by
 rw[nT]
 rfl
abbrev nF (op:Int) (kids:List Int):aa:=(6,op,(0,0,(⟨#[]⟩:ByteArray),()),((0,0,()),false,false,()),((0,0,()),false,false,()),kids,())
noncomputable def AE (op deep:Int) (y:List Int) (r:ByteArray) (b:Bool) (ns:List aa):RI :=
 (bi (⟨#[44]⟩:ByteArray) r b ns).bind fun z3=>(if(!z3.1.1)=true then(if z3.2.1.2.2.1=true then((aG (nF op y) z3.2.1.1 true z3.2.1.2.1).bind fun z4=>(some ((z4.1.1,()),(z4.2.1,())))) else((bi (⟨#[41]⟩:ByteArray) z3.2.1.1 z3.2.1.2.2.1 z3.2.1.2.1).bind fun z5=>((aG (nF op y) z5.2.1.1 (!z5.1.1) z5.2.1.2.1).bind fun z6=>(some ((z6.1.1,()),(z6.2.1,())))))) else(bZ op deep z3.2.1.1 z3.2.1.2.2.1 y z3.2.1.2.1))
theorem OP {op deep:Int} {l:ag} {kids:List Int} {ns:List aa} (hl:l.length≤900):bZ op deep (ba l) false kids ns =
  if Bd (bl l)=true then(aG (nA (cN ((bl l).takeWhile aL)).1 (cN ((ke (bl l)).takeWhile aL)).1) (ba ((ke (bl l)).dropWhile aL)) (!(cN ((ke (bl l)).takeWhile aL)).2) ns).bind fun z2=>(app kids ([z2.1.1]:(List Int)) 8 fun y1=>AE op deep y1 z2.2.1.1 z2.2.1.2.2.1 z2.2.1.2.1)
  else(bo 1 (IntKind.i64.wrap (deep+1)) (ba l) false ns).bind fun z7=>(app kids ([z7.1.1]:(List Int)) 8 fun y2=>AE op deep y2 z7.2.1.1 z7.2.1.2.2.1 z7.2.1.2.1):=by
 rw[jg]
 simp only[Bool.not_false,if_true]
 rw[Fw hl]
 by_cases ha:Bd (bl l)=true
 ·rw[if_pos ha,if_pos ha]
  simp only[Option.bind_some,if_true,Bool.false_or]
  rfl
 ·rw[if_neg ha,if_neg ha]
  simp only[Option.bind_some,Bool.false_eq_true,if_false]
  rfl
theorem Du : ∀(l:ag),∀(deep least:Int) (b:Bool) (ns:List aa),0≤deep→deep+(l.length:Int)≤400→ns.length≤60→hJ l b ns (bo least deep (ba l) b ns):=fun l=>R4 _ l rfl
theorem AF {op deep:Int} {y:List Int} {l:ag} {b:Bool} {ns:List aa} (hd0:0≤deep) (hd:deep+1+(l.length:Int)≤400) (hy:y.length+l.length≤9000) (hn:ns.length≤60):hJ l b ns (AE op deep y (ba l) b ns):=by
 have hbl:=aI (aw l)
 unfold AE
 rw[show(⟨#[44]⟩:ByteArray)=ba [44] from rfl,cY (by omega)]
 simp only[Option.bind_some,gP]
 by_cases hc:sg (bl l)=[44]
 ·have hc':(bl l).head? = some 44:=by rw[←ig (c:=44) (.inr (.inr (.inr (.inl rfl))))]; exact hc
  have hlt:=pd hc'
  simp only[hc,decide_true,Bool.not_true,Bool.false_eq_true,if_false,if_true,List.length_singleton]
  exact(J2 (n:=l.length+1) (fun l' _ deep least b ns d0 d1 hn=>Du l' deep least b ns d0 d1 hn) _ _ op deep b y ns rfl (by omega) hd0 (by omega) (by omega) hn).mono (iz l) id (List.prefix_refl _)
 ·simp only[hc,decide_false,Bool.not_false,if_true,if_false]
  cases b with
  | true =>
   simp only[if_true]
   exact(fA hn (Hh (by omega))).mono (aw l) (fun _=>rfl) (List.prefix_refl _)
  | false =>
   simp only[Bool.false_eq_true,if_false]
   rw[show(⟨#[41]⟩:ByteArray)=ba [41] from rfl,cY (by omega)]
   simp only[Option.bind_some,gP]
   refine(fA hn (Hh (by omega))).mono ?_ (fun h=>by cases h) (List.prefix_refl _)
   split
   ·exact ak (ak (gu _ _) (aw _)) (aw l)
   ·exact ak (aw _) (aw l)
noncomputable def Dv (op:Int) (y:List Int) (s:ByteArray) (a:Int) (b:Bool) (ns:List aa):RS :=
 (ej (⟨#[41]⟩:ByteArray) s a b ns).bind fun z2=>(if z2.1.1=true then((ce (nF op y) z2.2.1.1 z2.2.1.2.1 z2.2.1.2.2.1 z2.2.1.2.2.2.1).bind fun z3=>(some ((z3.1.1,()),(z3.2.1,())))) else((ej (⟨#[44]⟩:ByteArray) z2.2.1.1 z2.2.1.2.1 z2.2.1.2.2.1 z2.2.1.2.2.2.1).bind fun z4=>(if(!z4.1.1)=true then(dp op z4.2.1.1 z4.2.1.2.1 true y z4.2.1.2.2.2.1) else(dp op z4.2.1.1 z4.2.1.2.1 z4.2.1.2.2.1 y z4.2.1.2.2.2.1))))
theorem xe {op:Int} {y:List Int} {s l:ag} {ns:List aa} (hs:s.length≤900) (h:l <:+ s) : ∃ l',l' <:+ s∧Dv op y (ba s) (bT s l) true ns=some ((0,()),((ba s,bT s l',true,ns,()),())):=by
 unfold Dv
 rw[show(⟨#[41]⟩:ByteArray)=ba [41] from rfl,je (by omega) (by decide) h]
 simp only[Option.bind_some,Bool.not_true,Bool.false_and,Bool.false_eq_true,if_false]
 rw[show(⟨#[44]⟩:ByteArray)=ba [44] from rfl,je (by omega) (by decide) (ak (aw l) h)]
 simp only[Option.bind_some,Bool.not_true,Bool.false_and,Bool.false_eq_true,if_false,Bool.not_false,if_true]
 exact⟨bl (bl l),ak (aw _) (ak (aw l) h),J5⟩
theorem OQ {op:Int} {s l:ag} {kids:List Int} {ns:List aa}:dp op (ba s) (bT s l) false kids ns=(sE (ba s) (bT s l) false ns).bind fun z1=>(app kids ([z1.1.1]:(List Int)) 8 fun y1=>Dv op y1 z1.2.1.1 z1.2.1.2.1 z1.2.1.2.2.1 z1.2.1.2.2.2.1):=by
 rw[nT]
 rfl
theorem XE {s l:ag} {ns:List aa} (hs:s.length≤900) (h:l <:+ s):sE (ba s) (bT s l) false ns =
  if Bd (bl l)=true then(if(cN ((ke (bl l)).takeWhile aL)).2=true then ce (nA (cN ((bl l).takeWhile aL)).1 (cN ((ke (bl l)).takeWhile aL)).1) (ba s) (bT s ((ke (bl l)).dropWhile aL)) false ns
   else some ((0,()),((ba s,bT s ((ke (bl l)).dropWhile aL),true,ns,()),())))
  else fp 1 (ba s) (bT s (bl l)) false ns:=by
 have hm:=ak (aw l) h
 have hr:=ak (Nd l) h
 have hsl:=aI h
 have h1:=aI (aw l)
 have h2:=mR aL (bl l)
 have h3:=aI (Ir l)
 rw[Mh,M5 (by omega) h]
 simp only[Option.bind_some]
 rw[Fu (by omega) hm]
 simp only[Option.bind_some]
 rw[tx (by omega)]
 simp only[Option.bind_some]
 unfold Bd
 cases hp:(cN ((bl l).takeWhile aL)).2 with
 | false=>simp only[Bool.false_and,Bool.false_eq_true,if_false,hH]
 | true =>
  simp only[if_true,Bool.true_and]
  rw[show(⟨#[58]⟩:ByteArray)=ba [58] from rfl,je (by omega) (by decide) hr]
  simp only[Option.bind_some,Bool.not_false,Bool.true_and,Fk]
  by_cases hc:(bl ((bl l).dropWhile aL)).head? = some 58
  ·simp only[hc,decide_true,if_true,List.length_singleton]
   have hq:(bl ((bl l).dropWhile aL)).drop 1 <:+ s:=ak (iz _) hr
   rw[M5 (by omega) hq]
   simp only[Option.bind_some]
   have hq2:ke (bl l) <:+ s:=ak (aw _) hq
   rw[show bl ((bl ((bl l).dropWhile aL)).drop 1)=ke (bl l) from rfl,Fu (by omega) hq2]
   simp only[Option.bind_some]
   have h4:=mR aL (ke (bl l))
   have h5:=aI hq2
   rw[tx (by omega)]
   simp only[Option.bind_some,hH]
   cases (cN ((ke (bl l)).takeWhile aL)).2 <;> simp
  ·simp only[hc,decide_false,Bool.false_eq_true,if_false,hH]
theorem rC {s m m':ag} {L L':Int} {F:RI} {G:RS} {K:(Int×Unit)×(rh×Unit)→RI} {K':(Int×Unit)×(lD×Unit)→RS} (h:ou s m L F G)
  (hg : ∀(i:Int) (l1 l2:ag) (ns:List aa),bl l1=bl l2→l1 <:+ m→l2 <:+ m→dQ ns=true→ns.length≤60→(ez (bl l1)=0∨cn (ez (bl l1)) < L)→ou s m' L' (K ((i,()),((ba l1,ns,false,()),()))) (K' ((i,()),((ba s,bT s l2,false,ns,()),()))))
  (hd : ∀(i:Int) (l1:ag) (b1:Bool) (ns1:List aa) (j:Int) (l2:ag) (ns2:List aa),Dm b1 ns1→l1 <:+ m→ns1.length≤60→l2 <:+ s→ns2.length≤61+m.length→ou s m' L' (K ((i,()),((ba l1,ns1,b1,()),()))) (K' ((j,()),((ba s,bT s l2,true,ns2,()),())))) :
  ou s m' L' (F.bind K) (G.bind K'):=by
 rcases h with⟨i,l1,l2,ns,rfl,rfl,h1,h2,h3,h4,h5,h6⟩ | ⟨i,l1,b1,ns1,j,l2,ns2,rfl,h1,h2,h3,rfl,h4,h5⟩
 ·exact hg i l1 l2 ns h1 h2 h3 h4 h5 h6
 ·exact hd i l1 b1 ns1 j l2 ns2 h1 h2 h3 h4 h5
theorem j7 {s m:ag} {L:Int} {F:RI} {G:RS} {l1:ag} {b1:Bool} {ns1:List aa} {j:Int} {l2:ag} {ns2:List aa} (hF:hJ l1 b1 ns1 F) (hd:Dm b1 ns1) (h1:l1 <:+ m) (hG:G=some ((j,()),((ba s,bT s l2,true,ns2,()),()))) (h2:l2 <:+ s) (h3:ns2.length≤61+m.length):ou s m L F G:=by
 obtain⟨i,l',b',ns',e,k1,k2,k3⟩:=hF.dm hd
 exact .inr ⟨i,l',b',ns',j,l2,ns2,e,k2,ak k1 h1,k3,hG,h2,h3⟩
def Uc (s:ag) (n:Nat):Prop := ∀(l l0:ag),bl l=bl l0→l <:+ s→l0 <:+ s→(bl l).length < n → ∀(L deep:Int) (ns:List aa),1≤L→L≤5→0≤deep→deep+((bl l).length:Int)≤200→dQ ns=true→ns.length≤60 →
 ou s (bl l) L (bo L deep (ba l) false ns) (fp L (ba s) (bT s l0) false ns)
theorem ld {c:UInt8} {l:ag}:([c]:ag).isPrefixOf l=decide (l.head? = some c):=Fk c l
theorem V8 {s:ag} (hs:s.length≤200) {n:Nat} (HB:Uc s n) : ∀(k:Nat) (l1 l2:ag),(bl l1).length=k→bl l1=bl l2→l1 <:+ s→l2 <:+ s→(bl l1).length < n → ∀(op deep:Int) (kids:List Int) (ns:List aa),0≤deep→deep+1+((bl l1).length:Int)≤200→kids.length+(bl l1).length≤1000→dQ ns=true→ns.length≤60 →
  ou s (bl l1) 5 (bZ op deep (ba l1) false kids ns) (dp op (ba s) (bT s l2) false kids ns):=by
 intro k
 induction k using Nat.strongRecOn with
 | ind k ih =>
  intro l1 l2 hk hb hs1 hs2 hn op deep kids ns hd0 hd hkl ho hns
  subst hk
  have hl1:=aI hs1
  have hm1:=aI (aw l1)
  have hms:bl l1 <:+ s:=ak (aw l1) hs1
  rw[OP (by omega),OQ,XE (by omega) hs2,←hb]
  have doom : ∀(y:List Int) (x1:ag) (b1:Bool) (ns1:List aa) (x2:ag) (ns2:List aa),y.length=kids.length+1→Dm b1 ns1→x1 <:+ bl l1→ns1.length≤60→x2 <:+ s→ns2.length≤61+(bl l1).length →
    ou s (bl l1) 5 (AE op deep y (ba x1) b1 ns1) (Dv op y (ba s) (bT s x2) true ns2):=by
   intro y x1 b1 ns1 x2 ns2 hy hdm hx1 hn1 hx2 hn2
   have hlx:=aI hx1
   obtain⟨l',h1,h2⟩:=xe (op:=op) (y:=y) (ns:=ns2) (by omega) hx2
   exact j7 (AF hd0 (by omega) (by omega) hn1) hdm hx1 h2 h1 hn2
  have good : ∀(y:List Int) (x1 x2:ag) (ns:List aa),y.length=kids.length+1→bl x1=bl x2→x1 <:+ bl l1→x2 <:+ bl l1→dQ ns=true→ns.length≤60 →
    ou s (bl l1) 5 (AE op deep y (ba x1) false ns) (Dv op y (ba s) (bT s x2) false ns):=by
   intro y x1 x2 ns hy hbx hx1 hx2 ho hn
   have hlx:=aI hx1
   have hblx:=aI (aw x1)
   have hx2s:=ak hx2 hms
   have c41 : ¬(41:UInt8)=44:=by decide
   have c44 : ¬(44:UInt8)=41:=by decide
   unfold AE Dv
   rw[show(⟨#[44]⟩:ByteArray)=ba [44] from rfl,show(⟨#[41]⟩:ByteArray)=ba [41] from rfl,cY (by omega),je (by omega) (by decide) hx2s]
   simp only[Option.bind_some,ig (c:=44) (.inr (.inr (.inr (.inl rfl)))),gP,hH,List.length_singleton,Bool.not_false,Bool.true_and,ld,←hbx]
   by_cases h44:(bl x1).head? = some 44
   ·have h41 : ¬(bl x1).head? = some 41:=by rw[h44]; simp
    simp only[h44,h41,decide_true,decide_false,Bool.not_true,Bool.false_eq_true,if_false,if_true,Option.some.injEq,c44]
    rw[je (by omega) (by decide) (ak (aw x1) (ak hx1 hms))]
    simp only[Option.bind_some,Bool.not_false,Bool.true_and,ld,dF,h44,decide_true,if_true,Bool.not_true,Bool.false_eq_true,if_false,List.length_singleton]
    have hlt:=pd h44
    have hb2:=aI (aw ((bl x1).drop 1))
    have hsx:(bl x1).drop 1 <:+ bl l1:=ak (iz x1) hx1
    exact(ih _ (by omega) _ _ rfl rfl (ak hsx hms) (ak hsx hms) (by omega) op deep y ns hd0 (by omega) (by omega) ho hn).mono (ak (aw _) hsx)
   ·simp only[h44,decide_false,Bool.not_false,if_true,if_false,Bool.false_eq_true]
    rw[cY (by omega)]
    simp only[Option.bind_some,ig (c:=41) (.inr (.inr (.inl rfl))),dF,List.length_singleton]
    by_cases h41:(bl x1).head? = some 41
    ·simp only[h41,decide_true,if_true,Bool.not_true]
     have hsx:(bl x1).drop 1 <:+ bl l1:=ak (iz x1) hx1
     exact rB (Hh (by omega)) rfl hsx hsx hms ho hn
    ·simp only[h41,decide_false,if_false,Bool.not_false,Bool.false_eq_true]
     rw[je (by omega) (by decide) (ak (aw x1) (ak hx1 hms))]
     simp only[Option.bind_some,Bool.not_false,Bool.true_and,ld,dF,h44,decide_false,if_true,Bool.false_eq_true,if_false]
     have hsx:bl x1 <:+ bl l1:=ak (aw x1) hx1
     exact j7 (fA hn (Hh (by omega))) (Hi ho) hsx J5 (ak hsx hms) (by omega)
  by_cases ha:Bd (bl l1)=true
  ·rw[if_pos ha,if_pos ha]
   have hX:(ke (bl l1)).dropWhile aL <:+ bl l1:=by
    have:=Ir (bl l1)
    rw[dF] at this
    exact this
   cases h2:(cN ((ke (bl l1)).takeWhile aL)).2 with
   | true =>
    simp only[Bool.not_true,if_true]
    refine rC (rB (m:=bl l1) rfl rfl hX hX hms ho hns) ?_ ?_
    ·intro i x1 x2 ns' e1 e2 e3 e4 e5 _
     simp only
     rw[bp (by simp only[List.length_singleton]; omega),bp (by simp only[List.length_singleton]; omega)]
     exact good _ _ _ _ (by simp) e1 e2 e3 e4 e5
    ·intro i x1 b1 ns1 j x2 ns2 e1 e2 e3 e4 e5
     simp only
     rw[bp (by simp only[List.length_singleton]; omega),bp (by simp only[List.length_singleton]; omega)]
     have:kids++[i]=kids++[i]:=rfl
     by_cases hij:i=j
     ·subst hij
      exact doom _ _ _ _ _ _ (by simp) e1 e2 e3 e4 e5
     ·obtain⟨l',h1,h2⟩:=xe (op:=op) (y:=kids++[j]) (ns:=ns2) (by omega) e4
      have hlx:=aI e2
      exact j7 (AF hd0 (by omega) (by simp only[List.length_append,List.length_singleton]; omega) e3) e1 e2 h2 h1 e5
   | false =>
    simp only[Bool.not_false,Bool.false_eq_true,if_false]
    obtain⟨i,h3,_⟩:=zg (x:=nA (cN ((bl l1).takeWhile aL)).1 (cN ((ke (bl l1)).takeWhile aL)).1) (l:=(ke (bl l1)).dropWhile aL) (b:=true) hns
    rw[h3]
    simp only[Option.bind_some,Bool.true_eq_false,false_and,if_false,Bool.true_or]
    rw[bp (by simp only[List.length_singleton]; omega),bp (by simp only[List.length_singleton]; omega)]
    obtain⟨l',h1,h2⟩:=xe (op:=op) (y:=kids++[0]) (ns:=ns) (by omega) (ak hX hms)
    have hlx:=aI hX
    exact j7 (AF hd0 (by omega) (by simp only[List.length_append,List.length_singleton]; omega) hns) (Hi ho) hX h2 h1 (by omega)
  ·rw[if_neg ha,if_neg ha,wr (by omega) (by omega)]
   refine rC (HB l1 (bl l1) (dF l1).symm hs1 hms hn 1 (deep+1) ns (by decide) (by decide) (by omega) (by omega) ho hns) ?_ ?_
   ·intro i x1 x2 ns' e1 e2 e3 e4 e5 _
    simp only
    rw[bp (by simp only[List.length_singleton]; omega),bp (by simp only[List.length_singleton]; omega)]
    exact good _ _ _ _ (by simp) e1 e2 e3 e4 e5
   ·intro i x1 b1 ns1 j x2 ns2 e1 e2 e3 e4 e5
    simp only
    rw[bp (by simp only[List.length_singleton]; omega),bp (by simp only[List.length_singleton]; omega)]
    obtain⟨l',h1,h2⟩:=xe (op:=op) (y:=kids++[j]) (ns:=ns2) (by omega) e4
    have hlx:=aI e2
    exact j7 (AF hd0 (by omega) (by simp only[List.length_append,List.length_singleton]; omega) e3) e1 e2 h2 h1 e5
theorem J6 {p:UInt8→Bool} {c:UInt8} : ∀ {l:ag},c∈l.takeWhile p→p c=true
 | [],h=>by simp at h
 | x :: l,h=>by
  cases hx:p x with
  | true =>
   rw[List.takeWhile_cons_of_pos hx] at h
   rcases List.mem_cons.1 h with rfl | h
   ·exact hx
   ·exact J6 h
  | false =>
   rw[List.takeWhile_cons_of_neg (by rw[hx]; decide)] at h
   cases h
theorem V9 {w:ag} (hw : ∀ c∈w,aL c=true) (h:(bb w).2=true):(w≠[])↔((bb w).1.1=1∨(bb w).1.1=3):=by
 constructor
 ·intro hne
  obtain⟨k1,k2⟩:=oZ h
  rcases sn k1 with e | ⟨n,e,_⟩ | ⟨t,e⟩ | ⟨b,e⟩ | ⟨n,e,h0⟩
  ·rw[e] at k2
   exact absurd (Cn (b:=[]) k2.symm) hne
  ·rw[e]; exact .inl rfl
  ·rw[e] at k2
   exfalso
   have e2:w=39 :: lb t:=by
    have:ba w=ba (39 :: lb t):=by
     rw[←k2]
     show(⟨#[39]⟩:ByteArray)++t=_
     rw[←eO t,show(⟨#[39]⟩:ByteArray)=ba [39] from rfl,oq,dP]
     rfl
    exact Cn this
   exact absurd (hw 39 (by rw[e2]; simp)) (by decide)
  ·rw[e]; exact .inr rfl
  ·rw[e] at k2
   exfalso
   have f : ∀ n:Fin 6,1≤n.val→dg (n.val:Int)=ba (35 :: dz (n.val:Int)):=by decide +kernel
   have e2:w=35 :: dz (n.val:Int):=by
    have:ba w=ba (35 :: dz (n.val:Int)):=by
     rw[←k2]
     exact f n h0
    exact Cn this
   exact absurd (hw 35 (by rw[e2]; simp)) (by decide)
 ·rintro hk rfl
  have:(bb []).1.1=0:=rfl
  omega
theorem W0 {s:ByteArray} {a:Int} {ns:List aa}:fp 5 s a false ns=wt s a false ns:=by
 rw[B7]
 simp only[Bool.false_eq_true,if_false,hH]
 rfl
abbrev R7 (k:Int):aa:=(4,0,(0,0,(⟨#[]⟩:ByteArray),()),((0,0,()),false,false,()),((0,0,()),false,false,()),([k]:(List Int)),())
theorem Ud:ByteArray.size ⟨#[]⟩≤9223372036854775807:=by decide
theorem rD {s m:ag} {L i j:Int} {l1 l2:ag} {b:Bool} {ns1 ns2:List aa} (hd:Dm b ns1) (h1:l1 <:+ m) (h2:ns1.length≤60) (h3:l2 <:+ s) (h4:ns2.length≤61+m.length):ou s m L (some ((i,()),((ba l1,ns1,b,()),()))) (some ((j,()),((ba s,bT s l2,true,ns2,()),()))) :=
 .inr ⟨i,l1,b,ns1,j,l2,ns2,rfl,hd,h1,h2,rfl,h3,h4⟩
theorem Wa {s:ag} (hs:s.length≤200) {n:Nat} (HB:Uc s n) {m:ag} (hbm:bl m=m) (hms:m <:+ s) (hmn:m.length≤n) {deep:Int} {ns:List aa} (hd0:0≤deep) (hd:deep+(m.length:Int)≤200) (ho:dQ ns=true) (hn:ns.length≤60) :
  ou s m 5 (fh deep (m.takeWhile aL) (m.dropWhile aL) false ns) ((ne (ba s) (bT s m) false ns).bind fun z10=>(fZ z10.1.1 1 z10.2.1.1 z10.2.1.2.1 z10.2.1.2.2.1 z10.2.1.2.2.2.1)):=by
 have hml:=aI hms
 have hwl:=mR aL m
 have hrm:m.dropWhile aL <:+ m:=List.dropWhile_suffix _
 have hrs:=ak hrm hms
 have hrl:=aI hrm
 rw[Fu (by omega) hms]
 simp only[Option.bind_some]
 obtain⟨l',hl',e⟩:=Nc (w:=m.takeWhile aL) (s:=s) (ns:=ns) (by omega) (by omega) mQ [] (m.dropWhile aL) rfl hrs
 have e:fZ (ba (m.takeWhile aL)) 1 (ba s) (bT s (m.dropWhile aL)) false ns=_:=e
 rw[e]
 have hl's:l' <:+ m:=by
  rcases hl' with rfl | rfl
  ·exact hrm
  ·exact ak (aw _) hrm
 have hlb:bl l'=bl (m.dropWhile aL):=by
  rcases hl' with rfl | rfl
  ·rfl
  ·exact dF _
 cases hf:mQ.find? (fun k=>decide (dM k=m.takeWhile aL)) with
 | some k =>
  obtain⟨k',hk',hkw,hkm,hne⟩:=PX (w:=m.takeWhile aL) (by rw[hf]; simp)
  rw[hf] at hk'
  cases hk'
  have hno : ∀ k∈mQ,(bb (dM k)).2=false∧(cN (dM k)).2=false:=by decide +kernel
  obtain⟨v1,v2⟩:=hno k hkm
  rw[hkw] at v1 v2
  have hlt:=PY (l:=m) (by rw[hbm]; exact hne)
  rw[hbm] at hlt
  have ei:fh deep (m.takeWhile aL) (m.dropWhile aL) false ns=gG k deep (ba (m.dropWhile aL)) false ns:=by
   unfold fh
   rw[if_neg (by rw[v1]; simp),if_neg (by rw[v2]; simp),hf]
  rw[ei,qu,if_neg (by decide),show(⟨#[40]⟩:ByteArray)=ba [40] from rfl,cY (by omega)]
  simp only[Option.bind_some,ig (c:=40) (.inr (.inl rfl)),ld,List.length_singleton]
  by_cases h40:(bl (m.dropWhile aL)).head? = some 40
  ·simp only[h40,decide_true,Bool.and_true,hf,if_true,Bool.not_true]
   have hdl:=pd h40
   have hds:(bl (m.dropWhile aL)).drop 1 <:+ m:=ak (iz _) hrm
   have hb2:=aI (aw ((bl (m.dropWhile aL)).drop 1))
   rw[Kx,R6]
   exact(V8 hs HB _ _ _ rfl rfl (ak hds hms) (ak hds hms) (by omega) k deep [] ns hd0 (by omega) (by simp only[List.length_nil]; omega) ho hn).mono (ak (aw _) hds)
  ·simp only[h40,decide_false,Bool.and_false,if_false,Bool.not_false]
   have e0:mQ.find? (fun _=>false)=none:=rfl
   rw[e0]
   simp only
   have es:rz (m.takeWhile aL) s (bT s l') false ns=some ((0,()),((ba s,bT s l',true,ns,()),())):=by
    unfold rz
    rw[if_neg (by rw[v1]; simp),if_neg (by rw[v2]; simp)]
   rw[es,jg]
   simp only[Bool.not_true,Bool.false_eq_true,if_false,gP]
   exact j7 (fA hn (Hh (by simp))) (Hi ho) (ak (aw _) hrm) rfl (ak hl's hms) (by omega)
 | none =>
  have e0:mQ.find? (fun k=>decide (dM k=m.takeWhile aL) && ([40]:ag).isPrefixOf (bl (m.dropWhile aL)))=none:=by
   rw[List.find?_eq_none] at hf ⊢
   intro k hk
   have:=hf k hk
   simp only[decide_eq_true_eq] at this
   simp[this]
  rw[e0]
  simp only
  unfold rz fh
  rw[hf]
  have hv:=fun h=>V9 (w:=m.takeWhile aL) (fun c hc=>J6 hc) h
  by_cases hc:(bb (m.takeWhile aL)).2=true∧m.takeWhile aL≠[]
  ·rw[if_pos hc,if_pos ⟨hc.1,(hv hc.1).1 hc.2⟩,jO]
   exact rB (PW (Nat.le_trans (dj (oZ hc.1).1) (by decide))) hlb.symm hrm hl's hms ho hn
  ·rw[if_neg hc,if_neg (fun h=>hc ⟨h.1,(hv h.1).2 h.2⟩)]
   by_cases hp:(cN (m.takeWhile aL)).2=true
   ·rw[if_pos hp,if_pos hp]
    exact rB rfl hlb.symm hrm hl's hms ho hn
   ·rw[if_neg hp,if_neg hp]
    exact rD (Hi ho) hrm hn (ak hl's hms) (by omega)
theorem Ue {s:ag} (hs:s.length≤200) {n:Nat} (HB:Uc s n) : ∀(k:Nat) (l l0:ag),(bl l).length=k→bl l=bl l0→l <:+ s→l0 <:+ s→(bl l).length≤n → ∀(deep:Int) (ns:List aa),0≤deep→deep+((bl l).length:Int)≤200→dQ ns=true→ns.length≤60 →
  ou s (bl l) 5 (fa deep (ba l) false ns) (wt (ba s) (bT s l0) false ns):=by
 intro k
 induction k using Nat.strongRecOn with
 | ind k ih =>
  intro l l0 hk hb hs1 hs2 hln deep ns hd0 hd ho hn
  subst hk
  have hl1:=aI hs1
  have hm1:=aI (aw l)
  have hms:bl l <:+ s:=ak (aw l) hs1
  rw[k8,ax (by omega),Mi,show(⟨#[45]⟩:ByteArray)=ba [45] from rfl,show(⟨#[40]⟩:ByteArray)=ba [40] from rfl,show(⟨#[34]⟩:ByteArray)=ba [34] from rfl,show(⟨#[35]⟩:ByteArray)=ba [35] from rfl,show(⟨#[41]⟩:ByteArray)=ba [41] from rfl,cY (by omega),je (by omega) (by decide) hs2]
  simp only[Option.bind_some,Bool.false_eq_true,if_false,gP,hH,ig (c:=45) (.inl rfl),List.length_singleton,Bool.not_false,Bool.true_and,ld,←hb]
  by_cases h45:(bl l).head? = some 45
  ·simp only[h45,decide_true,if_true]
   have hlt:=pd h45
   have hX:(bl l).drop 1 <:+ bl l:=gu 1 _
   have hbX:=aI (aw ((bl l).drop 1))
   have hlX:((bl l).drop 1).length < (bl l).length:=by
    obtain⟨t,ht⟩:=iy h45
    rw[ht]
    simp
   rw[wr (by omega) (by omega),W0]
   refine rC (ih _ (by omega) _ _ rfl rfl (ak hX hms) (ak hX hms) (by omega) (deep+1) ns (by omega) (by omega) ho hn) ?_ ?_
   ·intro i x1 x2 ns' e1 e2 e3 e4 e5 _
    exact rB (x:=R7 i) rfl e1 (ak e2 (ak (aw _) hX)) (ak e3 (ak (aw _) hX)) hms e4 e5
   ·intro i x1 b1 ns1 j x2 ns2 e1 e2 e3 e4 e5
    refine j7 (fA e3) e1 (ak e2 (ak (aw _) hX)) (Nh (x:=R7 j) (ns:=ns2) (by omega) Ud) e4 ?_
    show(ns2++[R7 j]).length≤_
    rw[List.length_append,List.length_singleton]
    omega
  ·simp only[h45,decide_false,Bool.false_eq_true,if_false]
   rw[rA (by omega),je (by omega) (by decide) hms]
   simp only[Option.bind_some,dF,Bool.not_false,Bool.true_and,ld,List.length_singleton]
   by_cases h40:(bl l).head? = some 40
   ·have n34 : ¬(bl l).head? = some 34:=by rw[h40]; decide
    have n35 : ¬(bl l).head? = some 35:=by rw[h40]; decide
    simp only[h40,decide_true,if_true]
    rw[if_neg (by decide),if_neg (by decide)]
    have hX:(bl l).drop 1 <:+ bl l:=gu 1 _
    have hbX:=aI (aw ((bl l).drop 1))
    have hlX:((bl l).drop 1).length < (bl l).length:=by
     obtain⟨t,ht⟩:=iy h40
     rw[ht]
     simp
    rw[wr (by omega) (by omega)]
    refine rC (HB _ _ rfl (ak hX hms) (ak hX hms) (by omega) 1 (deep+1) ns (by decide) (by decide) (by omega) (by omega) ho hn) ?_ ?_
    ·intro i x1 x2 ns' e1 e2 e3 e4 e5 _
     have hx1:x1 <:+ bl l:=ak e2 (ak (aw _) hX)
     have hx2:x2 <:+ bl l:=ak e3 (ak (aw _) hX)
     have hlx:=aI hx1
     simp only[Bool.false_eq_true,if_false]
     rw[cY (by omega),je (by omega) (by decide) (ak hx2 hms)]
     simp only[Option.bind_some,ig (c:=41) (.inr (.inr (.inl rfl))),List.length_singleton,Bool.not_false,Bool.true_and,ld,←e1]
     by_cases h41:(bl x1).head? = some 41
     ·simp only[h41,decide_true,if_true,Bool.not_true,Bool.false_eq_true,if_false]
      have hd1:(bl x1).drop 1 <:+ bl l:=ak (iz x1) hx1
      exact .inl ⟨i,(bl x1).drop 1,(bl x1).drop 1,ns',rfl,rfl,rfl,hd1,hd1,e4,e5,.inr (R5 _)⟩
     ·simp only[h41,decide_false,if_false,Bool.not_false,Bool.false_eq_true,if_true]
      have hd1:bl x1 <:+ bl l:=ak (aw x1) hx1
      exact rD (Hi e4) hd1 e5 (ak hd1 hms) (by omega)
    ·intro i x1 b1 ns1 j x2 ns2 e1 e2 e3 e4 e5
     have hx1:x1 <:+ bl l:=ak e2 (ak (aw _) hX)
     have hlx:=aI hx1
     rw[je (by omega) (by decide) e4]
     simp only[Option.bind_some,Bool.not_true,Bool.false_and,Bool.false_eq_true,if_false,Bool.not_false,if_true]
     cases b1 with
     | true =>
      simp only[if_true]
      exact rD ⟨.inl rfl,e1.2⟩ hx1 e3 (ak (aw x2) e4) (by omega)
     | false =>
      simp only[Bool.false_eq_true,if_false]
      rw[cY (by omega)]
      simp only[Option.bind_some]
      have hdm:dQ ns1=false:=e1.1.elim (fun h=>by cases h) id
      refine rD ⟨.inr hdm,e1.2⟩ ?_ e3 (ak (aw x2) e4) (by omega)
      split
      ·exact ak (ak (gu _ _) (aw _)) hx1
      ·exact ak (aw _) hx1
   ·simp only[h40,decide_false,Bool.false_eq_true,if_false]
    rw[je (by omega) (by decide) hms]
    simp only[Option.bind_some,dF,Bool.not_false,Bool.true_and,ld,List.length_singleton]
    by_cases h34:(bl l).head? = some 34
    ·simp only[h34,decide_true,if_true]
     obtain⟨t,ht⟩:=iy h34
     have htl:t.length+1=(bl l).length:=by rw[ht]; simp
     have hts:t <:+ bl l:=⟨[34],by rw[ht]; rfl⟩
     rw[ht]
     simp only[List.drop_succ_cons,List.drop_zero]
     rw[AC (by omega),V4 (by omega) (ak hts hms)]
     cases hq:qt t with
     | none =>
      rw[←ht]
      exact rD (Hi ho) (pc _) hn ⟨s,by simp⟩ (by omega)
     | some p =>
      obtain⟨q1,q2,q3⟩:=T5 t p.1 p.2 hq
      show ou s _ 5 (bO _ _ false ns) (ce _ _ _ false ns)
      rw[jO,←ht]
      have hp:=ak q1 hts
      refine rB (x:=nC (2,0,ba ([]++p.1),())) (PW ?_) rfl hp hp hms ho hn
      show(ba ([]++p.1)).size≤_
      rw[ay]
      simp only[List.nil_append]
      omega
    ·simp only[h34,decide_false,Bool.false_eq_true,if_false]
     rw[je (by omega) (by decide) hms]
     simp only[Option.bind_some,dF,Bool.not_false,Bool.true_and,ld,List.length_singleton]
     by_cases h35:(bl l).head? = some 35
     ·simp only[h35,decide_true,if_true]
      obtain⟨t,ht⟩:=iy h35
      have htl:t.length+1=(bl l).length:=by rw[ht]; simp
      have hts:t <:+ bl l:=⟨[35],by rw[ht]; rfl⟩
      rw[ht]
      simp only[List.drop_succ_cons,List.drop_zero]
      have es:=J1 (s:=s) (l:=t) (b:=false) (ns:=ns) (by omega) (ak hts hms) qH [] rfl
      have es:jv 1 (ba s) (bT s t) false ns=_:=es
      rw[It (by omega),es]
      cases qH.find? (gX t) with
      | none =>
       simp only
       rw[←ht]
       exact rD (Hi ho) (pc _) hn (ak hts hms) (by omega)
      | some e =>
       simp only
       rw[jO,←ht]
       have hp:=ak (gu (dz e).length t) hts
       exact rB (x:=nC (vE e)) (PW (by show eS.size≤_; decide)) rfl hp hp hms ho hn
     ·simp only[h35,decide_false,Bool.false_eq_true,if_false]
      exact Wa hs HB (dF l) hms hln hd0 hd ho hn
noncomputable def CA:Nat→Int→(Int×Unit)×(lD×Unit)→RS
 | 0,_,z=>some ((z.1.1,()),(z.2.1,()))
 | c+1,L,z=>(dI (L+(c:Int)) z.1.1 z.2.1.1 z.2.1.2.1 z.2.1.2.2.1 z.2.1.2.2.2.1).bind (CA c L)
theorem Iu {L a:Int} {s:ByteArray} {i:Int} {ns:List aa}:dI L a s i true ns=some ((a,()),((s,i,true,ns,()),())):=by
 rw[wM]
 rfl
theorem Dw : ∀(c:Nat) (L a:Int) (s:ByteArray) (i:Int) (ns:List aa),CA c L ((a,()),((s,i,true,ns,()),()))=some ((a,()),((s,i,true,ns,()),()))
 | 0,_,_,_,_,_=>rfl
 | c+1,L,a,s,i,ns=>by
  show(dI _ a s i true ns).bind (CA c L)=_
  rw[Iu]
  exact Dw c L a s i ns
theorem Ni : ∀(c:Nat) (L:Int) (z:(Int×Unit)×(lD×Unit)),CA (c+1) L z=(CA c (L+1) z).bind fun z2=>dI L z2.1.1 z2.2.1.1 z2.2.1.2.1 z2.2.1.2.2.1 z2.2.1.2.2.2.1
 | 0,L,z=>by
  show(dI (L+((0:Nat):Int)) z.1.1 z.2.1.1 z.2.1.2.1 z.2.1.2.2.1 z.2.1.2.2.2.1).bind (fun z=>some ((z.1.1,()),(z.2.1,())))=dI L z.1.1 z.2.1.1 z.2.1.2.1 z.2.1.2.2.1 z.2.1.2.2.2.1
  rw[hH,show L+((0:Nat):Int)=L by omega]
 | c+1,L,z=>by
  show(dI (L+((c+1:Nat):Int)) z.1.1 z.2.1.1 z.2.1.2.1 z.2.1.2.2.1 z.2.1.2.2.2.1).bind (CA (c+1) L)=((dI (L+1+(c:Int)) z.1.1 z.2.1.1 z.2.1.2.1 z.2.1.2.2.1 z.2.1.2.2.2.1).bind (CA c (L+1))).bind _
  rw[show L+((c+1:Nat):Int)=L+1+(c:Int) by omega,Option.bind_assoc]
  congr 1
  funext y
  exact Ni c L y
theorem Hj {s:ByteArray} {a:Int} {ns:List aa} : ∀(c:Nat) (L:Int),L+(c:Int)=5→1≤L→fp L s a false ns=(fp 5 s a false ns).bind (CA c L)
 | 0,L,h,_=>by
  have:L=5:=by omega
  subst this
  exact hH.symm
 | c+1,L,h,h1=>by
  have hL : ¬(L == 5)=true:=by simp only[beq_iff_eq]; omega
  rw[B7,if_neg (by decide),if_neg hL,wr (by omega) (by omega),Hj c (L+1) (by omega) (by omega),Option.bind_assoc]
  congr 1
  funext z
  exact(Ni c L z).symm
abbrev nB (op a b:Int):aa:=(5,op,(0,0,(⟨#[]⟩:ByteArray),()),((0,0,()),false,false,()),((0,0,()),false,false,()),([a,b]:(List Int)),())
theorem Wb {s m' l1 l2:ag} {L':Int} {x:aa} {ns:List aa} {K:(Int×Unit)×(rh×Unit)→RI} {K':(Int×Unit)×(lD×Unit)→RS} (hsx:xc x=true) (ho:dQ ns=true) (hn:ns.length≤60)
  (hg:dQ (ns++[x])=true→(ns++[x]).length≤60→ou s m' L' (K (((ns.length:Int),()),((ba l1,ns++[x],false,()),()))) (K' (((ns.length:Int),()),((ba s,bT s l2,false,ns++[x],()),()))))
  (hd : ∀(i:Int) (b1:Bool) (ns1:List aa),Dm b1 ns1→ns1.length≤60→ou s m' L' (K ((i,()),((ba l1,ns1,b1,()),()))) (K' (((ns.length:Int),()),((ba s,bT s l2,true,ns++[x],()),())))) :
  ou s m' L' ((aG x (ba l1) false ns).bind K) ((ce x (ba s) (bT s l2) false ns).bind K'):=by
 have hx:=Ng hsx
 obtain⟨i,e,hi⟩:=zg (x:=x) (l:=l1) (b:=false) hn
 rw[e,Ip (by omega) hx]
 simp only[Option.bind_some]
 by_cases hlt:ns.length < 60
 ·have hi:=hi rfl hlt
  subst hi
  have d60:decide (60≤ns.length)=false:=decide_eq_false (by omega)
  simp only[d60,hlt,and_self,if_true,Bool.false_or]
  cases hk:df x with
  | true =>
   refine hg ?_ ?_
   ·unfold dQ at ho ⊢
    rw[List.all_append,ho]
    simp[hk]
   ·rw[List.length_append,List.length_singleton]; omega
  | false =>
   refine hd _ false (ns++[x]) ⟨.inr ?_,PZ (vI ho) hsx⟩ ?_
   ·unfold dQ
    rw[List.all_append]
    simp[hk]
   ·rw[List.length_append,List.length_singleton]; omega
 ·have d60:decide (60≤ns.length)=true:=decide_eq_true (by omega)
  rw[d60,if_neg (by omega)]
  simp only[Bool.false_or,Bool.true_or]
  exact hd i true ns (Hi ho) hn
theorem Wc {s:ag} (hs:s.length≤200) {n:Nat} (HB:Uc s n) : ∀(k c:Nat) (l1 l2 M:ag),(bl l1).length=k→bl l1=bl l2→l1 <:+ M→l2 <:+ M→M <:+ s→(bl l1).length≤n → ∀(L left deep:Int) (ns:List aa),1≤L→L+(c:Int)≤5→0≤deep→deep+((bl l1).length:Int)≤200→dQ ns=true→ns.length≤60→(ez (bl l1)=0∨cn (ez (bl l1)) < L+(c:Int)) →
  ou s M L (cw L deep left (ba l1) false ns) (CA c L ((left,()),((ba s,bT s l2,false,ns,()),()))):=by
 intro k
 induction k using Nat.strongRecOn with
 | ind k ih =>
  intro c
  induction c with
  | zero =>
   intro l1 l2 M hk hb hs1 hs2 hMs hln L left deep ns hL0 hL1 hd0 hd ho hn hpost
   have hl1:=aI (ak hs1 hMs)
   have hbl:=aI (aw l1)
   obtain⟨o1,o2⟩:=mP (bl l1)
   rw[fN]
   simp only[Bool.not_false,if_true]
   rw[vG (by omega),zi o1 o2 (by omega) (fun h=>by rw[dF]; exact ry h),if_pos (by omega)]
   refine .inl ⟨left,bl l1,l2,ns,rfl,rfl,by rw[dF,hb],ak (aw l1) hs1,hs2,ho,hn,?_⟩
   rw[dF]
   omega
  | succ c ihc =>
   intro l1 l2 M hk hb hs1 hs2 hMs hln L left deep ns hL0 hL1 hd0 hd ho hn hpost
   have hl1:=aI (ak hs1 hMs)
   have hbl:=aI (aw l1)
   have hs2s:=ak hs2 hMs
   obtain⟨o1,o2⟩:=mP (bl l1)
   obtain⟨l',hl',eop⟩:=YA (s:=s) (l:=l2) (ns:=ns) (L:=L+(c:Int)) (by omega) (by omega) hs2s
   have hCh:CA (c+1) L ((left,()),((ba s,bT s l2,false,ns,()),()))=(dI (L+(c:Int)) left (ba s) (bT s l2) false ns).bind (CA c L):=rfl
   rw[hCh,wM]
   simp only[Bool.not_false,if_true]
   rw[eop,←hb]
   by_cases hop:ez (bl l1)≠0∧cn (ez (bl l1))=L+(c:Int)
   ·rw[if_pos hop]
    have h0 : ¬(ez (bl l1) == 0)=true:=by simpa using hop.1
    unfold AA
    simp only[Option.bind_some]
    rw[if_neg h0,←hb,wr (by omega) (by omega)]
    have hlt:=Nf hop.1
    have hX:(bl l1).drop (du (ez (bl l1))).length <:+ M:=ak (gu _ _) (ak (aw l1) hs1)
    have hXM:=aI hX
    have hXl:((bl l1).drop (du (ez (bl l1))).length).length < (bl l1).length:=by
     have:=Nf (l:=bl l1) (by rw[dF]; exact hop.1)
     rw[dF] at this
     exact this
    have hbX:=aI (aw ((bl l1).drop (du (ez (bl l1))).length))
    rw[fN]
    simp only[Bool.not_false,if_true]
    rw[vG (by omega),zi o1 o2 (by omega) (fun h=>by rw[dF]; exact ry h),if_neg (by omega),dF,hop.2,Option.bind_assoc]
    have hMl:(bl l1).length≤M.length:=aI (ak (aw l1) hs1)
    refine rC (HB _ _ rfl (ak hX hMs) (ak hX hMs) (by omega) (L+(c:Int)+1) deep ns (by omega) (by omega) hd0 (by omega) ho hn) ?_ ?_
    ·intro i x1 x2 ns' e1 e2 e3 e4 e5 e6
     have hx1:x1 <:+ M:=ak e2 (ak (aw _) hX)
     have hx2:x2 <:+ M:=ak e3 (ak (aw _) hX)
     have hxl:=aI e2
     have hbx:=aI (aw x1)
     have hxM:=aI hx1
     have hMsl:=aI hMs
     simp only
     rw[Option.bind_assoc]
     refine Wb (x:=nB (ez (bl l1)) left i) rfl e4 e5 ?_ ?_
     ·intro a1 a2
      exact ih _ (by omega) (c+1) x1 x2 M rfl e1 hx1 hx2 hMs (by omega) L _ deep _ hL0 hL1 hd0 (by omega) a1 a2 (by omega)
     ·intro i2 b1 ns1 a1 a2
      simp only
      rw[Iu]
      simp only[Option.bind_some]
      rw[Dw]
      refine j7 (AD _ x1 rfl (fun l' _ deep least b ns d0 d1 hn=>Du l' deep least b ns d0 d1 hn) L deep i2 b1 ns1 hd0 (by omega) a2) a1 hx1 rfl (ak hx2 hMs) ?_
      rw[List.length_append,List.length_singleton]
      omega
    ·intro i x1 b1 ns1 j x2 ns2 e1 e2 e3 e4 e5
     have hx1:x1 <:+ M:=ak e2 (ak (aw _) hX)
     have hxM:=aI hx1
     have hMsl:=aI hMs
     simp only
     rw[Nh (x:=nB (ez (bl l1)) left j) (ns:=ns2) (by omega) Ud]
     simp only[Option.bind_some]
     rw[Iu]
     simp only[Option.bind_some]
     rw[Dw]
     obtain⟨i3,l3,b3,ns3,h3,j1,j2,j3⟩:=(fA (x:=nB (ez (bl l1)) left i) (l:=x1) (b:=b1) e3).dm e1
     rw[h3]
     simp only[Option.bind_some]
     have hs3:=aI j1
     refine j7 (AD _ l3 rfl (fun l' _ deep least b ns d0 d1 hn=>Du l' deep least b ns d0 d1 hn) L deep i3 b3 ns3 hd0 (by omega) j3) j2 (ak j1 hx1) rfl e4 ?_
     rw[List.length_append,List.length_singleton]
     omega
   ·rw[if_neg hop]
    unfold AA
    simp only[Option.bind_some]
    rw[if_pos (by rfl)]
    simp only[Option.bind_some]
    have hb':bl l1=bl l':=by
     rcases hl' with rfl | rfl
     ·exact hb
     ·rw[dF,hb]
    have hs':l' <:+ M:=by
     rcases hl' with rfl | rfl
     ·exact hs2
     ·exact ak (aw l2) hs2
    exact ihc l1 l' M hk hb' hs1 hs' hMs hln L left deep ns hL0 (by omega) hd0 hd ho hn (by omega)
theorem Uf {s:ag} (hs:s.length≤200) : ∀ n,Uc s n
 | 0=>fun l l0 _ _ _ h=>by omega
 | n+1=>by
  have HB:=Uf hs n
  intro l l0 hb hs1 hs2 hln L deep ns hL0 hL1 hd0 hd ho hn
  have hms:bl l <:+ s:=ak (aw l) hs1
  have hm:=aI hms
  rw[nS,Hj (5 - L).toNat L (by omega) hL0,W0]
  refine rC (Ue hs HB _ l l0 rfl hb hs1 hs2 (by omega) deep ns hd0 hd ho hn) ?_ ?_
  ·intro i x1 x2 ns' e1 e2 e3 e4 e5 _
   have hbx:=aI (aw x1)
   have hx:=aI e2
   exact Wc hs HB _ (5 - L).toNat x1 x2 (bl l) rfl e1 e2 e3 hms (by omega) L i deep ns' hL0 (by omega) hd0 (by omega) e4 e5 (.inr (by have:=R5 (ez (bl x1)); omega))
  ·intro i x1 b1 ns1 j x2 ns2 e1 e2 e3 e4 e5
   have hx:=aI e2
   rw[Dw]
   exact j7 (AD _ x1 rfl (fun l' _ deep least b ns d0 d1 hn=>Du l' deep least b ns d0 d1 hn) L deep i b1 ns1 hd0 (by omega) e3) e1 e2 rfl e4 e5
theorem Iv {ns:List aa} (h:sm ns=true) : ∀ x∈ns,x.2.2.1.2.2.1.size≤9223372036854775807:=by
 unfold sm at h
 rw[List.all_eq_true] at h
 exact fun x hx=>Ng (h x hx)
theorem Iw {ns:List aa} (h:sm ns=true) : ∀ x∈ns,x.2.2.2.2.2.1.length≤10000000:=by
 unfold sm at h
 rw[List.all_eq_true] at h
 intro x hx
 have:=h x hx
 unfold xc at this
 rw[Bool.and_eq_true,decide_eq_true_eq,decide_eq_true_eq] at this
 omega
theorem YB (s:ag):bT s s=0:=by
 unfold bT
 omega
theorem KZ {x:ByteArray} (hx:x.size≤9223372036854775807) : ∃(f:List aa) (b:Bool),mo x=some ((f,b,()),())∧iX x=some ((f,b,()),())∧(b=true→eH f=true)∧(b=false→f=[]):=by
 obtain⟨s,rfl⟩ : ∃ s,x=ba s:=⟨lb x,(eO x).symm⟩
 rw[GI,wJ,sj hx,ui hx]
 simp only[Option.bind_some]
 cases hp:(plain (ba s) && decide (((ba s).size:Int)≤200)) with
 | false=>exact⟨[],false,rfl,rfl,(fun h=>by cases h),fun _=>rfl⟩
 | true =>
  rw[Bool.and_eq_true,decide_eq_true_eq,ay] at hp
  have hs:s.length≤200:=by omega
  have hbl:=aI (aw s)
  have h:=Uf hs (s.length+1) s s rfl (pc s) (pc s) (by omega) 1 0 [] (by decide) (by decide) (by decide) (by omega) rfl (by simp)
  rw[YB] at h
  simp only[Bool.not_true,Bool.false_eq_true,if_false]
  rcases h with⟨i,l1,l2,ns,e1,e2,h1,h2,h3,h4,h5,h6⟩ | ⟨i,l1,b1,ns1,j,l2,ns2,e1,h1,h2,h3,e2,h4,h5⟩
  ·rw[e1,e2]
   simp only[Option.bind_some]
   rw[M5 (by omega) (ak h3 (aw s)),nD]
   simp only[Option.bind_some,Bool.false_eq_true,if_false]
   have e0:(ByteArray.toList (ba (bl l1)) == ByteArray.toList (⟨#[]⟩:ByteArray))=decide (bl l1=[]):=dL (b:=[])
   rw[e0,←h1,ay,jx (by omega) (Iv (vI h4)) (Iw (vI h4)),lx (by omega) (Iv (vI h4)) (Iw (vI h4))]
   simp only[Option.bind_some]
   by_cases hr:bl l1=[]
   ·rw[ax (by rw[hr]; unfold bT; simp),hr]
    simp only[decide_true,Bool.not_true,Bool.false_eq_true,if_false]
    cases hk:eH ns with
    | true=>exact⟨ns,true,rfl,rfl,fun _=>hk,fun h=>by cases h⟩
    | false=>exact⟨[],false,rfl,rfl,(fun h=>by cases h),fun _=>rfl⟩
   ·have hlen:=List.length_pos_iff.2 hr
    have hls:=aI (ak (ak (aw l1) h2) (aw s))
    rw[aF (by unfold bT; omega)]
    simp only[hr,decide_false,Bool.not_false,if_true]
    exact⟨[],false,rfl,rfl,(fun h=>by cases h),fun _=>rfl⟩
  ·rw[e1,e2]
   simp only[Option.bind_some]
   rw[M5 (by omega) h4,nD]
   simp only[Option.bind_some,if_true]
   refine⟨[],false,rfl,?_,(fun h=>by cases h),fun _=>rfl⟩
   cases b1 with
   | true=>rfl
   | false =>
    have hbad:dQ ns1=false:=h1.1.elim (fun h=>by cases h) id
    simp only[Bool.false_eq_true,if_false]
    split
    ·rfl
    ·rw[jx (by omega) (Iv h1.2) (Iw h1.2)]
     simp only[Option.bind_some]
     cases hk:eH ns1 with
     | false=>rfl
     | true =>
      exfalso
      have:dQ ns1=true:=by
       unfold dQ
       rw[List.all_eq_true]
       intro y hy
       obtain⟨i,hi⟩:=List.getElem?_of_mem hy
       exact(la hk i y hi).1
      rw[this] at hbad
      cases hbad
end Go.Proofs.YtnodjiikdgmeaaaGreatDoor.Abs
