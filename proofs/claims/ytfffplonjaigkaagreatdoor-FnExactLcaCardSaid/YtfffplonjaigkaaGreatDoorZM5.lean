/- Plain laws: quoted texts, names of errors and of functions, areas: what both sides read. -/
import Derived.Test.YtfffplonjaigkaaGreatDoorZM4
import Derived.Lib.IndexBytes
set_option linter.unusedVariables false
set_option linter.unusedSimpArgs false
set_option linter.unusedSectionVars false
open Bool renaming and_eq_true→M7,false_eq_true→M8,false_or→Y9,not_false→O8,not_true→O5,true_and→P4
open ByteArray renaming size→N6,toList→M1
open Int renaming toNat_of_nonneg→T7
open List renaming all_append→W1,all_eq_true→T1,append_nil→Q9,cons_append→W0,dropWhile_cons_of_neg→S6,dropWhile_suffix→ad_,drop_append→af_,drop_succ_cons→Q1,drop_zero→S9,find?_cons→U2,length_append→M6,length_cons→N3,length_drop→X0,length_nil→S4,length_pos_iff→Y3,length_singleton→M3,length→N0,mem_cons→O9,nil_append→X3,prefix_refl→T2,takeWhile_cons_of_neg→X5,take_append→Y1
open Nat renaming le_trans→Q3
open Option renaming bind_some→M0,map_eq_some_iff→R6
open Option.some renaming injEq→O2,inj→R5
open _root_ renaming ByteArray→L9,absurd→P1,congrArg→N1,decide_eq_false→O7,decide_eq_true_eq→M9,decide_eq_true→O6,decide_false→S0,decide_true→Q6,if_false→O0,if_neg→M2,if_pos→M5,if_true→O4
namespace Go.Proofs.YtfffplonjaigkaaGreatDoor.Abs
open Go
theorem yP (c:UInt8) (t:ae) : ∀ pre:ae,c ∉ pre→Lib.indexByte (pre++c :: t) c=(pre.length:Int)
 | [],_=>by simp[Lib.indexByte]
 | b :: pre,h=>by
  simp only[O9,not_or] at h
  have hb : ¬b=c:=fun e=>h.1 e.symm
  have ih:=yP c t pre h.2
  simp only[W0,Lib.indexByte,ih]
  have : ¬((pre.length:Int) = -1):=by omega
  simp[hb,this]
theorem CQ (c:UInt8) : ∀ pre:ae,c ∉ pre→Lib.indexByte pre c = -1
 | [],_=>rfl
 | b :: pre,h=>by
  simp only[O9,not_or] at h
  have hb : ¬b=c:=fun e=>h.1 e.symm
  simp only[Lib.indexByte,CQ c pre h.2]
  simp[hb]
theorem Kw {c:UInt8} {pre t:ae} (h:c ∉ pre):Lib.cut (pre++c :: t) [c]=(pre,t,true):=by
 unfold Lib.cut
 rw[Lib.index_one,yP c t pre h,M5 (by omega)]
 simp only[Int.toNat_natCast,M3,Prod.mk.injEq,and_true]
 refine⟨List.take_left' rfl,?_⟩
 have:pre++c :: t=(pre++[c])++t:=by simp
 rw[this,List.drop_left' (by simp)]
theorem Ju {c:UInt8} {s:ae} (h:c ∉ s):Lib.cut s [c]=(s,[],false):=by
 unfold Lib.cut
 rw[Lib.index_one,CQ c s h,M2 (by omega)]
theorem Kx {x c:ae} (hx:x.length < 4294967281):strings_Cut (ba x) (ba c)=some ((ba (Lib.cut x c).1,ba (Lib.cut x c).2.1,(Lib.cut x c).2.2,()),()):=by
 rw[yy]
 show(if(ba x).size < 4294967281 then some (((⟨(Lib.cut (lb (ba x)) (lb (ba c))).1.toArray⟩:L9),(⟨(Lib.cut (lb (ba x)) (lb (ba c))).2.1.toArray⟩:L9),(Lib.cut (lb (ba x)) (lb (ba c))).2.2,()),()) else none)=_
 rw[M5 (by rw[aB]; exact hx),cP,cP]
theorem wi (c:UInt8) : ∀ s:ae,c∈s → ∃ pre t,s=pre++c :: t∧c ∉ pre
 | b :: s,h=>by
  by_cases hb:b=c
  ·exact⟨[],s,by rw[hb]; rfl,by simp⟩
  ·obtain⟨pre,t,h1,h2⟩:=wi c s (by rcases O9.1 h with e | e; exact P1 e.symm hb; exact e)
   exact⟨b :: pre,t,by rw[h1]; rfl,by simp only[O9,not_or]; exact⟨Ne.symm hb,h2⟩⟩
def qt:ae→Option (ae×ae)
 | []=>none
 | c :: l=>if c=34 then(match l with
   | []=>some ([],[])
   | d :: l'=>if d=34 then(qt l').map (fun p=>(34 :: p.1,p.2)) else some ([],d :: l'))
  else(qt l).map fun p=>(c :: p.1,p.2)
theorem wj {c:UInt8} {l:ae} (h:c≠34):qt (c :: l)=(qt l).map fun p=>(c :: p.1,p.2):=by
 rw[qt.eq_def]
 simp only[M2 h]
theorem CR:qt [34]=some ([],[]):=by
 rw[qt.eq_def]
 rfl
theorem CS {l:ae}:qt (34 :: 34 :: l)=(qt l).map fun p=>(34 :: p.1,p.2):=by
 rw[qt.eq_def]
 rfl
theorem yQ {d:UInt8} {l:ae} (h:d≠34):qt (34 :: d :: l)=some ([],d :: l):=by
 rw[qt.eq_def]
 simp only[O4,M2 h]
theorem CT (l:ae) : ∀ pre:ae,(34:UInt8) ∉ pre→qt (pre++l)=(qt l).map fun p=>(pre++p.1,p.2)
 | [],_=>by simp
 | b :: pre,h=>by
  simp only[O9,not_or] at h
  have hb : ¬b=34:=fun e=>h.1 e.symm
  rw[W0,wj hb,CT l pre h.2,Option.map_map]
  rfl
theorem Ky {s:ae} (h:(34:UInt8) ∉ s):qt s=none:=by
 have:=CT [] s h
 rw[Q9] at this
 rw[this]
 rfl
theorem HZ : ∀(l t r:ae),qt l=some (t,r)→r <:+ l∧t.length≤l.length∧r.length < l.length:=by
 intro l
 induction hn:l.length using Nat.strongRecOn generalizing l with
 | ind n ih =>
  intro t r h
  subst hn
  cases l with
  | nil=>cases h
  | cons c l =>
   by_cases hc:c=34
   ·subst hc
    cases l with
    | nil =>
     rw[CR] at h
     cases h
     exact⟨⟨[34],rfl⟩,by simp,by simp⟩
    | cons d l' =>
     by_cases hd:d=34
     ·subst hd
      rw[CS,R6] at h
      obtain⟨⟨t',r'⟩,h1,h2⟩:=h
      cases h2
      obtain⟨k1,k2,k3⟩:=ih l'.length (by simp only[N3]; omega) l' rfl t' r' h1
      refine⟨ac k1 ⟨[34,34],rfl⟩,?_,?_⟩
      ·simp only[N3]; omega
      ·simp only[N3]; omega
     ·rw[yQ hd] at h
      cases h
      exact⟨⟨[34],rfl⟩,by simp,by simp⟩
   ·rw[wj hc,R6] at h
    obtain⟨⟨t',r'⟩,h1,h2⟩:=h
    cases h2
    obtain⟨k1,k2,k3⟩:=ih l.length (by simp) l rfl t' r' h1
    refine⟨ac k1 ⟨[c],rfl⟩,?_,?_⟩
    ·simp only[N3]; omega
    ·simp only[N3]; omega
abbrev nC (v:ay):ab:=(1,0,v,((0,0,()),false,false,()),((0,0,()),false,false,()),([]:(List Int)),())
noncomputable def iQ (out:ae) (r:L9) (b:Bool) (ns:List ab):Option (ae×ae)→Option ((Int×Unit)×(kK×Unit))
 | none=>some ((-1,()),((r,ns,true,()),()))
 | some p=>bm (2,0,ba (out++p.1),()) (ba p.2) b ns
theorem uy {F:Option ((Int×Unit)×(kK×Unit))}:(F.bind fun z3=>(some ((z3.1.1,()),(z3.2.1,()))))=F:=by
 cases F with
 | none=>rfl
 | some z=>rfl
theorem ec {F:Option ((Int×Unit)×(gj×Unit))}:(F.bind fun z3=>(some ((z3.1.1,()),(z3.2.1,()))))=F:=by
 cases F with
 | none=>rfl
 | some z=>rfl
theorem CU {r:L9} {b:Bool} {ns:List ab} : ∀(x out:ae),out.length+x.length≤1000→fx (ba out) (ba x) r b ns=iQ out r b ns (qt x):=by
 intro x
 induction hn:x.length using Nat.strongRecOn generalizing x with
 | ind n ih =>
  intro out hl
  rw[ry,show(⟨#[34]⟩:L9)=ba [34] from rfl,Kx (by omega)]
  simp only[M0]
  by_cases hm:(34:UInt8)∈x
  ·obtain⟨pre,t,h1,h2⟩:=wi 34 x hm
   have hx:x.length=pre.length+t.length+1:=by rw[h1]; simp; omega
   rw[h1,Kw h2,CT _ pre h2]
   simp only[O5,M8,O0]
   rw[aW (by omega),lN t [34] (by omega)]
   simp only[M0,uy]
   cases t with
   | nil =>
    rw[CR,show([34]:ae).isPrefixOf ([]:ae)=false from rfl]
    simp[iQ]
   | cons d l' =>
    by_cases hd:d=34
    ·subst hd
     rw[N3] at hx
     have e1:([34]:ae).isPrefixOf (34 :: l')=true:=by rw[dW]; rfl
     rw[e1]
     simp only[O5,M8,O0]
     rw[aW (by simp only[M6,M3]; omega),show(1:Int)=((1:Nat):Int) from rfl,eg (by simp)]
     simp only[Q1,S9]
     rw[ih l'.length (by omega) l' rfl (out++pre++[34]) (by simp only[M6,M3]; omega)]
     rw[CS]
     cases qt l' with
     | none=>rfl
     | some p=>simp[iQ]
    ·have e1:([34]:ae).isPrefixOf (d :: l')=false:=by rw[dW]; simp[hd]
     rw[e1]
     simp only[O8,O4]
     rw[yQ hd]
     simp[iQ]
  ·rw[Ju hm,Ky hm]
   rfl
theorem xO {l:ae} {b:Bool} {ns:List ab} (hl:l.length≤900):fE (ba (34 :: l)) b ns=iQ [] (ba (34 :: l)) b ns (qt l):=by
 rw[uH,show(1:Int)=((1:Nat):Int) from rfl,eg (by simp)]
 exact CU l [] (by simp; omega)
noncomputable def sQ (acc s:ae) (b:Bool) (ns:List ab):Option (ae×ae)→Option ((Int×Unit)×(gj×Unit))
 | none=>some ((0,()),((ba s,bd s [],true,ns,()),()))
 | some p=>bz (nC (2,0,ba (acc++p.1),())) (ba s) (bd s p.2) b ns
theorem Gr {s:ae} {b:Bool} {ns:List ab} (hs:s.length≤900) : ∀(l acc:ae),l <:+ s→acc.length+l.length≤1000→gc (ba acc) (ba s) (bd s l) b ns=sQ acc s b ns (qt l):=by
 intro l
 induction hn:l.length using Nat.strongRecOn generalizing l with
 | ind n ih =>
  intro acc h ha
  subst hn
  rw[vX]
  cases l with
  | nil =>
   rw[aq (by rw[aB]; unfold bd; simp)]
   rfl
  | cons c l =>
   obtain⟨pre,h1,h2⟩:=jk h
   have hl:pre.length+l.length+1=s.length:=by rw[h1]; simp; omega
   rw[N3] at ha
   have h':l <:+ s:=ac ⟨[c],rfl⟩ h
   have e1:(pre.length:Int)+1=bd s l:=by
    unfold bd
    omega
   rw[h2,av (by rw[aB]; omega),fh h1,wr (by omega) (by omega)]
   by_cases hc:c=34
   ·subst hc
    have e34:(((34:UInt8).toNat:Int) != 34)=false:=rfl
    rw[e34,e1]
    simp only[M8,O0,ec]
    cases l with
    | nil =>
     rw[CR,av (by rw[aB]; unfold bd; simp)]
     simp[sQ]
    | cons d l' =>
     obtain⟨wa,k1,k2⟩:=jk h'
     have hl2:wa.length+l'.length+1=s.length:=by rw[k1]; simp; omega
     rw[N3] at ha
     have h'':l' <:+ s:=ac ⟨[d],rfl⟩ h'
     have e2:(wa.length:Int)+1=bd s l':=by
      unfold bd
      omega
     rw[k2,aq (by rw[aB]; omega),fh k1]
     by_cases hd:d=34
     ·subst hd
      rw[e34,CS]
      simp only[M8,O0]
      rw[show(⟨#[34]⟩:L9)=ba [34] from rfl,aW (by simp only[M3]; omega),wr (by omega) (by omega),e2,ih l'.length (by simp only[N3]; omega) l' rfl (acc++[34]) h'' (by simp only[M6,M3]; omega)]
      cases qt l' with
      | none=>rfl
      | some p=>simp[sQ]
     ·have hd':((d.toNat:Int) != 34)=true:=by
       simp only[bne_iff_ne,ne_eq]
       intro e
       apply hd
       apply UInt8.toNat_inj.1
       show d.toNat=34
       omega
      rw[hd',yQ hd]
      simp only[O4]
      rw[←k2]
      simp[sQ]
   ·have hc':((c.toNat:Int) != 34)=true:=by
     simp only[bne_iff_ne,ne_eq]
     intro e
     apply hc
     apply UInt8.toNat_inj.1
     show c.toNat=34
     omega
    rw[hc']
    simp only[O4]
    rw[show(pre.length:Int)+1=((pre.length+1:Nat):Int) by omega,qw (by omega) (by omega)]
    have e3:(s.take (pre.length+1)).drop pre.length=[c]:=by
     rw[h1,Y1,af_]
     simp
    rw[e3,aW (by simp only[M3]; omega),show((pre.length+1:Nat):Int)=bd s l by omega,ih l.length (by simp) l rfl (acc++[c]) h' (by simp only[M6,M3]; omega)]
    rw[wj hc]
    cases qt l with
    | none=>rfl
    | some p=>simp[sQ]
theorem Jv {s l:ae} {b:Bool} {ns:List ab} (hs:s.length≤900) (h:l <:+ s):rf (ba s) (bd s l) b ns=sQ [] s b ns (qt l):=by
 rw[AB]
 have:=au h
 exact Gr hs l [] h (by simp; omega)
def jA (n:Int):ae:=(lb (cA n)).drop 1
abbrev qz:List Int:=[1,2,3,4,5]
def qA (l:ae) (n:Int):Bool:=(jA n).isPrefixOf l
theorem H0 {pre ys:List Int} {k:Int} (h:qz=pre++k :: ys):k=(pre.length:Int)+1∧1≤k∧k≤5∧cA k=ba (35 :: jA k)∧(jA k).length≤10:=by
 have h1:qz[pre.length]? = some k:=by rw[h]; simp
 have hl:pre.length < 5:=by
  have:(qz).length=5:=rfl
  have h2:=N1 N0 h
  simp at h2
  omega
 have : ∀ i:Fin 5,∀ k,qz[i.val]? = some k→k=(i.val:Int)+1:=by
  intro i k h
  have : ∀ i:Fin 5,qz[i.val]? = some ((i.val:Int)+1):=by decide
  rw[this i] at h
  exact(R5 h).symm
 have e:=this ⟨pre.length,hl⟩ k h1
 simp only at e
 have f : ∀ i:Fin 5,cA ((i.val:Int)+1)=ba (35 :: jA ((i.val:Int)+1))∧(jA ((i.val:Int)+1)).length≤10:=by decide +kernel
 have:=f ⟨pre.length,hl⟩
 simp only at this
 rw[←e] at this
 exact⟨e,by omega,by omega,this.1,this.2⟩
theorem Ac {deep:Int} {l:ae} {b:Bool} {ns:List ab} (hl:l.length≤900) : ∀(ys pre:List Int),qz=pre++ys→cp deep ((pre.length:Int)+1) (ba (35 :: l)) b ns=match ys.find? (qA l) with
  | some n=>bm (vE n) (ba (l.drop (jA n).length)) b ns
  | none=>cp deep 6 (ba (35 :: l)) b ns
 | [],pre,h=>by
  have:pre.length=5:=by
   rw[Q9] at h
   rw[←h]
   rfl
  rw[this]
  rfl
 | k :: ys,pre,h=>by
  obtain⟨e1,e2,e3,e4,e5⟩:=H0 h
  rw[←e1,lJ,av e3,l9 (by omega) e3]
  simp only[M0]
  rw[e4,oV _ _ (by rw[N3]; omega)]
  simp only[M0,U2]
  have e6:(35 :: jA k:ae).isPrefixOf (35 :: l)=qA l k:=by simp[qA]
  rw[e6]
  cases hp:qA l k with
  | true =>
   simp only[O4,zR,M0,uy,N3,Q1]
  | false =>
   simp only[M8,O0]
   rw[wr (by omega) (by omega)]
   have:=Ac (deep:=deep) (b:=b) (ns:=ns) hl ys (pre++[k]) (bh h)
   rw[M6,M3] at this
   rw[show k+1=((pre.length+1:Nat):Int)+1 by omega]
   exact this
theorem Ad {s l:ae} {b:Bool} {ns:List ab} (hs:s.length≤900) (hl:l <:+ s) : ∀(ys pre:List Int),qz=pre++ys→eT ((pre.length:Int)+1) (ba s) (bd s l) b ns=match ys.find? (qA l) with
  | some n=>bz (nC (vE n)) (ba s) (bd s (l.drop (jA n).length)) b ns
  | none=>some ((0,()),((ba s,bd s l,true,ns,()),()))
 | [],pre,h=>by
  have:pre.length=5:=by
   rw[Q9] at h
   rw[←h]
   rfl
  rw[this,nV,aq (by decide)]
  rfl
 | k :: ys,pre,h=>by
  obtain⟨e1,e2,e3,e4,e5⟩:=H0 h
  obtain⟨q,h1,h2⟩:=jk hl
  have hq:q.length+l.length=s.length:=by rw[h1]; simp
  rw[←e1,nV,av e3,rB (by omega) e3]
  simp only[M0]
  rw[e4,show(1:Int)=((1:Nat):Int) from rfl,eg (by simp)]
  simp only[Q1,S9,aB,U2]
  have ih:=Ad (b:=b) (ns:=ns) hs hl ys (pre++[k]) (bh h)
  rw[M6,M3,show((pre.length+1:Nat):Int)+1=k+1 by omega] at ih
  have hw:IntKind.i64.wrap (k+((1:Nat):Int))=k+1:=wr (by omega) (by omega)
  rw[hw,h2,wr (by omega) (by omega)]
  by_cases hm:(jA k).length≤l.length
  ·rw[av (by omega),show(q.length:Int)+((jA k).length:Int)=((q.length+(jA k).length:Nat):Int) by omega,qw (by omega) (by omega),cI]
   have e:(s.take (q.length+(jA k).length)).drop q.length=l.take (jA k).length:=by
    rw[h1,Y1,af_]
    simp
   have e7:decide (l.take (jA k).length=jA k)=qA l k:=by
    unfold qA
    rw[Bool.eq_iff_iff,M9,List.isPrefixOf_iff_prefix,List.prefix_iff_eq_take]
    exact eq_comm
   rw[e,e7]
   cases hp:qA l k with
   | true =>
    simp only[O4,Eg,M0,ec]
    congr 1
    unfold bd
    rw[X0]
    omega
   | false =>
    simp only[M8,O0]
    rw[←h2]
    exact ih
  ·rw[aq (by omega)]
   have hp:qA l k=false:=by
    rw[Bool.eq_false_iff]
    intro hp
    exact hm (uw hp)
   rw[hp,←h2]
   exact ih
def dR (k:Int):ae:=([[],[83,85,77],[77,73,78],[77,65,88],[67,79,85,78,84],[73,70],[65,78,68],[79,82],[78,79,84],[65,66,83],[76,69,78]]:List ae).getD k.toNat []
abbrev iL:List Int:=[1,2,3,4,5,6,7,8,9,10]
theorem H1 (k:Fin 11):List.getD ([(⟨#[]⟩:L9),(⟨#[83,85,77]⟩:L9),(⟨#[77,73,78]⟩:L9),(⟨#[77,65,88]⟩:L9),(⟨#[67,79,85,78,84]⟩:L9),(⟨#[73,70]⟩:L9),(⟨#[65,78,68]⟩:L9),(⟨#[79,82]⟩:L9),(⟨#[78,79,84]⟩:L9),(⟨#[65,66,83]⟩:L9),(⟨#[76,69,78]⟩:L9)]:(List L9)) k.val (⟨#[]⟩:L9)=ba (dR (k.val:Int)):=by
 revert k
 decide +kernel
theorem CV {k:Int} (h0:0≤k) (h1:k≤10):A9 k=some ((ba (dR k),()),()):=by
 rw[Jl,iH h0 (by show k < 11; omega)]
 have h:=H1 ⟨k.toNat,by omega⟩
 simp only[T7 h0] at h
 rw[h]
theorem xP {k:Int} (h0:0≤k) (h1:k≤10):uj k=some ((ba (dR k),()),()):=by
 rw[F5,iH h0 (by show k < 11; omega)]
 have h:=H1 ⟨k.toNat,by omega⟩
 simp only[T7 h0] at h
 rw[h]
theorem H2 {pre ys:List Int} {k:Int} (h:iL=pre++k :: ys):k=(pre.length:Int)+1∧1≤k∧k≤10:=by
 have h1:iL[pre.length]? = some k:=by rw[h]; simp
 have hl:pre.length < 10:=by
  have h2:=N1 N0 h
  simp at h2
  omega
 have : ∀ i:Fin 10,iL[i.val]? = some ((i.val:Int)+1):=by decide
 rw[this ⟨pre.length,hl⟩] at h1
 have e:=(R5 h1).symm
 simp only at e
 exact⟨e,by omega,by omega⟩
theorem CW {deep:Int} {w l:ae} {b:Bool} {ns:List ab} : ∀(ys pre:List Int),iL=pre++ys→cz deep (ba w) ((pre.length:Int)+1) (ba l) b ns=match ys.find? (fun k=>decide (dR k=w)) with
  | some k=>eG k deep (ba l) b ns
  | none=>some ((-1,()),((ba l,ns,true,()),()))
 | [],pre,h=>by
  have:pre.length=10:=by
   rw[Q9] at h
   rw[←h]
   rfl
  rw[this,ku,aq (by decide)]
  rfl
 | k :: ys,pre,h=>by
  obtain⟨e1,e2,e3⟩:=H2 h
  rw[←e1,ku,av e3,xP (by omega) e3]
  simp only[M0,cI,U2,uy]
  by_cases hp:dR k=w
  ·rw[av hp.symm]
   simp[hp]
  ·rw[aq (Ne.symm hp),wr (by omega) (by omega)]
   have:=CW (deep:=deep) (w:=w) (l:=l) (b:=b) (ns:=ns) ys (pre++[k]) (bh h)
   rw[M6,M3,show((pre.length+1:Nat):Int)+1=k+1 by omega] at this
   rw[this]
   simp[hp]
noncomputable def kY (w s:ae) (a:Int) (b:Bool) (ns:List ab):Option ((Int×Unit)×(gj×Unit)) :=
 if(bn w).2=true∧w≠[] then bz (nC (bn w).1) (ba s) a b ns
 else if(bU w).2=true then bz (2,0,(0,0,(⟨#[]⟩:L9),()),(bU w).1,((0,0,()),false,false,()),([]:(List Int)),()) (ba s) a b ns
 else some ((0,()),((ba s,a,true,ns,()),()))
theorem Gs {w s:ae} {a:Int} {b:Bool} {ns:List ab} (hw:w.length≤1000):dn (ba w) 11 (ba s) a b ns=kY w s a b ns:=by
 rw[nW,aq (by decide),se (by omega),mc (by omega)]
 simp only[M0,ec]
 have e0:(M1 (ba w) == M1 (⟨#[]⟩:L9))=decide (w=[]):=cI (b:=[])
 rw[e0]
 unfold kY
 cases (bn w).2 <;> by_cases hw0:w=[] <;> cases (bU w).2 <;> simp[hw0]
theorem CX {w s:ae} {ns:List ab} (hw:w.length≤1000) (hs:s.length≤900) : ∀(ys pre:List Int) (l:ae),iL=pre++ys→l <:+ s → ∃ l',(l'=l∨l'=bl l)∧dn (ba w) ((pre.length:Int)+1) (ba s) (bd s l) false ns=match ys.find? (fun k=>decide (dR k=w) && ([40]:ae).isPrefixOf (bl l)) with
  | some k=>rg k (ba s) (bd s ((bl l).drop 1)) false ns
  | none=>kY w s (bd s l') false ns
 | [],pre,l,h,hl=>by
  have:pre.length=10:=by
   rw[Q9] at h
   rw[←h]
   rfl
  refine⟨l,.inl rfl,?_⟩
  rw[this]
  exact Gs hw
 | k :: ys,pre,l,h,hl=>by
  obtain⟨e1,e2,e3⟩:=H2 h
  have ih:=fun l' (hl':l' <:+ s)=>CX (ns:=ns) hw hs ys (pre++[k]) l' (bh h) hl'
  rw[M6,M3,show((pre.length+1:Nat):Int)+1=k+1 by omega] at ih
  rw[←e1,nW,av e3,CV (by omega) e3]
  simp only[M0,cI,U2,ec]
  by_cases hp:dR k=w
  ·rw[av hp,show(⟨#[40]⟩:L9)=ba [40] from rfl,eI (by omega) (by decide) hl]
   simp only[M0,O8,P4,hp,Q6]
   cases hq:([40]:ae).isPrefixOf (bl l) with
   | true=>exact⟨l,.inl rfl,rfl⟩
   | false =>
    simp only[M8,O0]
    rw[wr (by omega) (by omega)]
    obtain⟨l',h1,h2⟩:=ih (bl l) (ac (al l) hl)
    rw[cw] at h1 h2
    refine⟨l',.inr (by simpa using h1),?_⟩
    rw[h2,hq]
  ·rw[aq hp,wr (by omega) (by omega)]
   obtain⟨l',h1,h2⟩:=ih l hl
   refine⟨l',h1,?_⟩
   rw[h2]
   simp[hp]
theorem gP (p:UInt8→Bool) (l:ae):(l.takeWhile p).length≤l.length:=(List.takeWhile_prefix p).length_le
abbrev nP (p:bM):ab:=(2,0,(0,0,(⟨#[]⟩:L9),()),p,((0,0,()),false,false,()),([]:(List Int)),())
abbrev nA (p q:bM):ab:=(3,0,(0,0,(⟨#[]⟩:L9),()),p,q,([]:(List Int)),())
noncomputable def eJ (deep:Int) (w r:ae) (b:Bool) (ns:List ab):Option ((Int×Unit)×(kK×Unit)) :=
 if(bn w).2=true∧((bn w).1.1=1∨(bn w).1.1=3) then bm (bn w).1 (ba r) b ns
 else if(bU w).2=true then aG (nP (bU w).1) (ba r) b ns
 else match iL.find? (fun k=>decide (dR k=w)) with
  | some k=>eG k deep (ba r) b ns
  | none=>some ((-1,()),((ba r,ns,true,()),()))
theorem fj {F:Option ((Int×Unit)×(kK×Unit))}:(F.bind fun z3=>(some ((z3.1.1,()),(z3.2.1,()))))=F:=uy
theorem H3 {deep:Int} {w l:ae} {b:Bool} {ns:List ab}:cz deep (ba w) 1 (ba l) b ns=match iL.find? (fun k=>decide (dR k=w)) with
  | some k=>eG k deep (ba l) b ns
  | none=>some ((-1,()),((ba l,ns,true,()),())):=CW iL [] rfl
theorem LM {deep:Int} {l:ae} {b:Bool} {ns:List ab} (hl:l.length≤900):cp deep 6 (ba l) b ns=eJ deep ((bl l).takeWhile aK) ((bl l).dropWhile aK) b ns:=by
 have h1:=au (al l)
 have h2:((bl l).takeWhile aK).length≤(bl l).length:=gP aK (bl l)
 rw[lJ,aq (by decide),rH (by omega)]
 simp only[M0]
 rw[md (by omega),iY (by omega)]
 simp only[M0,fj,H3]
 unfold eJ
 cases (bn ((bl l).takeWhile aK)).2 with
 | false=>simp
 | true =>
  by_cases k1:(bn ((bl l).takeWhile aK)).1.1=1
  ·simp[k1]
  ·by_cases k3:(bn ((bl l).takeWhile aK)).1.1=3
   ·simp[k3]
   ·simp[k1,k3]
theorem CY {deep:Int} {l:ae} {b:Bool} {ns:List ab} (hl:l.length≤900):j8 deep (ba l) b ns =
  if(bl l).head? = some 34 then fE (ba (bl l)) b ns
  else if(bl l).head? = some 35 then cp deep 1 (ba (bl l)) b ns
  else if(bl l).head? = some 40 then((bb 1 (IntKind.i64.wrap (deep+1)) (ba ((bl l).drop 1)) b ns).bind fun z6=>(if z6.2.1.2.2.1=true then(some ((z6.1.1,()),((z6.2.1.1,z6.2.1.2.1,true,()),()))) else((aY (⟨#[41]⟩:L9) z6.2.1.1 z6.2.1.2.2.1 z6.2.1.2.1).bind fun z7=>(some ((z6.1.1,()),((z7.2.1.1,z7.2.1.2.1,(!z7.1.1),()),()))))))
  else eJ deep ((bl l).takeWhile aK) ((bl l).dropWhile aK) b ns:=by
 have h1:=au (al l)
 have h2:((bl l).takeWhile aK).length≤(bl l).length:=gP aK (bl l)
 rw[xl,kk]
 simp only[M0]
 rw[show(⟨#[34]⟩:L9)=ba [34] from rfl,lN _ _ (by omega),show(⟨#[35]⟩:L9)=ba [35] from rfl,lN _ _ (by omega),show(⟨#[40]⟩:L9)=ba [40] from rfl,cL (by omega)]
 simp only[M0,fj,v8,cw,iK (c:=40) (.inr (.inl rfl)),M9,M3]
 by_cases c1:(bl l).head? = some 34
 ·rw[M5 c1,M5 c1]
 ·rw[M2 c1,M2 c1]
  by_cases c2:(bl l).head? = some 35
  ·rw[M5 c2,M5 c2]
  ·rw[M2 c2,M2 c2]
   by_cases c3:(bl l).head? = some 40
   ·rw[M5 c3,M5 c3,M5 c3]
   ·rw[M2 c3,M2 c3,M2 c3,rH (by omega),cw]
    simp only[M0]
    rw[md (by omega),iY (by omega)]
    simp only[M0,fj,H3]
    unfold eJ
    cases (bn ((bl l).takeWhile aK)).2 with
    | false=>simp
    | true =>
     by_cases k1:(bn ((bl l).takeWhile aK)).1.1=1
     ·simp[k1]
     ·by_cases k3:(bn ((bl l).takeWhile aK)).1.1=3
      ·simp[k3]
      ·simp[k1,k3]
def Ae (m:ae):Bool:=(bU (m.takeWhile aK)).2 && decide ((bl (m.dropWhile aK)).head? = some 58)
def fQ (m:ae):ae:=bl ((bl (m.dropWhile aK)).drop 1)
theorem CZ {l:ae} {b:Bool} {ns:List ab} (hl:l.length≤900):f2 (ba l) b ns =
  if Ae (bl l)=true then some ((nA (bU ((bl l).takeWhile aK)).1 (bU ((fQ (bl l)).takeWhile aK)).1,true,()),((ba ((fQ (bl l)).dropWhile aK),ns,(b || !(bU ((fQ (bl l)).takeWhile aK)).2),()),()))
  else some (((0,0,(0,0,(⟨#[]⟩:L9),()),((0,0,()),false,false,()),((0,0,()),false,false,()),([]:(List Int)),()),false,()),((ba l,ns,b,()),())):=by
 have h1:=au (al l)
 have h2:((bl l).takeWhile aK).length≤(bl l).length:=gP aK (bl l)
 have h3:=zW aK (bl l)
 have h4:=au (al ((bl l).dropWhile aK))
 have h5:((bl ((bl l).dropWhile aK)).drop 1).length≤(bl ((bl l).dropWhile aK)).length:=au (dB 1 _)
 have h6:=au (al ((bl ((bl l).dropWhile aK)).drop 1))
 have h7:((fQ (bl l)).takeWhile aK).length≤(fQ (bl l)).length:=gP aK _
 have h8:(fQ (bl l)).length≤((bl ((bl l).dropWhile aK)).drop 1).length:=h6
 rw[su,rH (by omega)]
 simp only[M0]
 rw[iY (by omega)]
 simp only[M0]
 unfold Ae
 cases hp:(bU ((bl l).takeWhile aK)).2 with
 | false=>simp
 | true =>
  simp only[O4,P4]
  rw[show(⟨#[58]⟩:L9)=ba [58] from rfl,cL (by omega)]
  simp only[M0,iK (c:=58) (.inr (.inr (.inr (.inr rfl)))),M3]
  by_cases hc:(bl ((bl l).dropWhile aK)).head? = some 58
  ·simp only[hc,Q6,O5,M8,O0,O4]
   rw[rH (by omega)]
   simp only[M0]
   rw[show bl ((bl ((bl l).dropWhile aK)).drop 1)=fQ (bl l) from rfl,iY (by omega)]
   simp only[M0]
   cases b <;> simp
  ·simp only[hc,S0,O8,O4,M8,O0]
abbrev RI:=Option ((Int×Unit)×(kK×Unit))
def oX (x:ab):Bool:=decide (x.2.2.1.2.2.1.size≤100000) && decide (x.2.2.2.2.2.1.length≤100000)
def sm (ns:List ab):Bool:=ns.all oX
def ed (l:ae) (b:Bool) (ns:List ab) (F:RI):Prop :=
 ∃(i:Int) (l':ae) (b':Bool) (ns':List ab),F=some ((i,()),((ba l',ns',b',()),()))∧l' <:+ l∧(b=true→b'=true)∧ns <+: ns'∧ns'.length≤60∧(sm ns=true→sm ns'=true)
theorem ed.mono {l l0:ae} {b b0:Bool} {ns ns0:List ab} {F:RI} (h:ed l b ns F) (h1:l <:+ l0) (h2:b0=true→b=true) (h3:ns0 <+: ns) (h4:sm ns0=true→sm ns=true:=by exact id):ed l0 b0 ns0 F:=by
 obtain⟨i,l',b',ns',e,k1,k2,k3,k4,k5⟩:=h
 exact⟨i,l',b',ns',e,ac k1 h1,fun h=>k2 (h2 h),List.IsPrefix.trans h3 k3,k4,fun h=>k5 (h4 h)⟩
theorem jl (l:ae):l <:+ l:=List.suffix_refl l
theorem dg {x:ab} {l:ae} {b:Bool} {ns:List ab} (hn:ns.length≤60) (hx:oX x=true:=by rfl):ed l b ns (aG x (ba l) b ns):=by
 obtain⟨i,h,_⟩:=ux (x:=x) (l:=l) (b:=b) hn
 refine⟨i,l,_,_,h,jl l,(fun hb=>by rw[hb]; rfl),?_,?_,?_⟩
 ·split
  ·exact⟨[x],rfl⟩
  ·exact T2 _
 ·split
  ·rename_i h
   rw[M6,M3]
   omega
  ·exact hn
 ·intro hs
  split
  ·unfold sm at hs ⊢
   rw[W1,hs]
   simp[hx]
  ·exact hs
theorem E2 {v:ay} (h:v.2.2.1.size≤100000):oX (nC v)=true:=by
 unfold oX
 rw[O6 h]
 rfl
theorem xQ {op:Int} {y:List Int} (h:y.length≤100000):oX (6,op,(0,0,(⟨#[]⟩:L9),()),((0,0,()),false,false,()),((0,0,()),false,false,()),y,())=true:=by
 unfold oX
 rw[M7]
 exact⟨rfl,O6 h⟩
theorem jB {v:ay} {r:L9} {b:Bool} {ns:List ab}:bm v r b ns=aG (nC v) r b ns:=by
 rw[sq]
 exact fj
theorem qB {i:Int} {l:ae} {b:Bool} {ns:List ab} (hn:ns.length≤60):ed l b ns (some ((i,()),((ba l,ns,true,()),()))) :=
 ⟨i,l,true,ns,rfl,jl l,fun _=>rfl,T2 _,hn,id⟩
theorem fR {l:ae} {c:UInt8} (h:l.head? = some c) : ∃ t,l=c :: t:=by
 cases l with
 | nil=>cases h
 | cons y t =>
  simp only[List.head?_cons,O2] at h
  exact⟨t,by rw[h]⟩
theorem jm {l:ae} {c:UInt8} (h:(bl l).head? = some c):((bl l).drop 1).length < l.length:=by
 have:=au (al l)
 obtain⟨t,ht⟩:=fR h
 rw[ht] at this ⊢
 simp only[N3,Q1,S9] at this ⊢
 omega
theorem eq (l:ae):(bl l).drop 1 <:+ l:=ac (dB 1 _) (al l)
theorem C0 (l:ae):(bl l).dropWhile aK <:+ l:=ac (ad_ _) (al l)
theorem yR (l:ae):(fQ (bl l)).dropWhile aK <:+ l :=
 ac (ad_ _) (ac (al _) (ac (dB 1 _) (ac (al _) (C0 l))))
section
variable {n:Nat} (HB : ∀ l:ae,l.length < n → ∀(deep least:Int) (b:Bool) (ns:List ab),0≤deep→deep+(l.length:Int)≤400→ns.length≤60→ed l b ns (bb least deep (ba l) b ns))
include HB
theorem Af : ∀(m:Nat) (l:ae) (op deep:Int) (b:Bool) (kids:List Int) (ns:List ab),l.length=m→l.length < n→0≤deep→deep+1+(l.length:Int)≤400→kids.length+l.length≤10000→ns.length≤60→ed l b ns (bN op deep (ba l) b kids ns):=by
 intro m
 induction m using Nat.strongRecOn with
 | ind m ih =>
  intro l op deep b kids ns hm hln hd0 hd hk hn
  subst hm
  rw[gn]
  cases b with
  | true =>
   simp only[O5,M8,O0,fj]
   exact dg hn (xQ (by omega))
  | false =>
   have tail : ∀(l2:ae) (b2:Bool) (ns2:List ab) (y:List Int),l2 <:+ l→ns <+: ns2→ns2.length≤60→y.length=kids.length+1→(sm ns=true→sm ns2=true) →
     ed l false ns ((aY (⟨#[44]⟩:L9) (ba l2) b2 ns2).bind fun z3=>(if(!z3.1.1)=true then(if z3.2.1.2.2.1=true then((aG (6,op,(0,0,(⟨#[]⟩:L9),()),((0,0,()),false,false,()),((0,0,()),false,false,()),y,()) z3.2.1.1 true z3.2.1.2.1).bind fun z4=>(some ((z4.1.1,()),(z4.2.1,())))) else((aY (⟨#[41]⟩:L9) z3.2.1.1 z3.2.1.2.2.1 z3.2.1.2.1).bind fun z5=>((aG (6,op,(0,0,(⟨#[]⟩:L9),()),((0,0,()),false,false,()),((0,0,()),false,false,()),y,()) z5.2.1.1 (!z5.1.1) z5.2.1.2.1).bind fun z6=>(some ((z6.1.1,()),(z6.2.1,())))))) else(bN op deep z3.2.1.1 z3.2.1.2.2.1 y z3.2.1.2.1))):=by
    intro l2 b2 ns2 y hs hp hn2 hy hsm
    have hl2:=au hs
    rw[show(⟨#[44]⟩:L9)=ba [44] from rfl,cL (by omega)]
    simp only[M0,iK (c:=44) (.inr (.inr (.inr (.inl rfl)))),fj,M3]
    by_cases hc:(bl l2).head? = some 44
    ·have hlt:=jm hc
     simp only[hc,Q6,O5,M8,O0,O4]
     exact(ih _ (by omega) _ op deep b2 y ns2 rfl (by omega) hd0 (by omega) (by omega) hn2).mono (ac (eq l2) hs) (fun h=>by cases h) hp hsm
    ·simp only[hc,S0,O8,O4,O0]
     have hbl:=au (al l2)
     cases b2 with
     | true =>
      simp only[O4]
      exact(dg hn2 (xQ (by omega))).mono (ac (al l2) hs) (fun h=>by cases h) hp hsm
     | false =>
      simp only[M8,O0]
      rw[show(⟨#[41]⟩:L9)=ba [41] from rfl,cL (by omega)]
      simp only[M0,fj]
      refine(dg hn2 (xQ (by omega))).mono ?_ (fun h=>by cases h) hp hsm
      split
      ·exact ac (ac (dB _ _) (al _)) (ac (al l2) hs)
      ·exact ac (al _) (ac (al l2) hs)
   simp only[O8,O4]
   rw[CZ (by omega)]
   by_cases ha:Ae (bl l)=true
   ·rw[M5 ha]
    simp only[M0,O4]
    obtain⟨i2,l2,b2,ns2,h2,k1,k2,k3,k4,k5⟩:=dg (x:=nA (bU ((bl l).takeWhile aK)).1 (bU ((fQ (bl l)).takeWhile aK)).1) (l:=(fQ (bl l)).dropWhile aK) (b:=(false || !(bU ((fQ (bl l)).takeWhile aK)).2)) hn
    rw[h2]
    simp only[M0]
    rw[dv (by simp only[M3]; omega)]
    exact tail _ _ _ _ (ac k1 (yR l)) k3 k4 (by simp) k5
   ·rw[M2 ha]
    simp only[M0,M8,O0]
    rw[wr (by omega) (by omega)]
    obtain⟨i2,l2,b2,ns2,h2,k1,k2,k3,k4,k5⟩:=HB l hln (deep+1) 1 false ns (by omega) hd hn
    rw[h2]
    simp only[M0]
    rw[dv (by simp only[M3]; omega)]
    exact tail _ _ _ _ k1 k3 k4 (by simp) k5
theorem Jw {l:ae} {op deep:Int} {b:Bool} {ns:List ab} (hln:l.length < n) (hd0:0≤deep) (hd:deep+1+(l.length:Int)≤400) (hn:ns.length≤60):ed l b ns (eG op deep (ba l) b ns):=by
 rw[oK]
 cases b with
 | true =>
  rw[M5 rfl,tz]
  simp only[O5,M8,O0,fj]
  exact dg hn (xQ (by simp))
 | false =>
  rw[M2 (by decide),show(⟨#[40]⟩:L9)=ba [40] from rfl,cL (by omega)]
  simp only[M0]
  have hs:(if sg (bl l)=[40] then(bl l).drop ([40]:ae).length else bl l) <:+ l:=by
   split
   ·exact eq l
   ·exact al l
  have:=au hs
  exact(Af HB _ _ op deep _ [] ns rfl (by omega) hd0 (by omega) (by simp only[S4]; omega) hn).mono hs (fun h=>by cases h) (T2 _)
theorem Jx {deep:Int} {w r:ae} {b:Bool} {ns:List ab} (hln:iL.find? (fun k=>decide (dR k=w))≠none→r.length < n∧deep+1+(r.length:Int)≤400) (hd0:0≤deep) (hn:ns.length≤60):ed r b ns (eJ deep w r b ns):=by
 unfold eJ
 split
 ·rename_i hc
  rw[jB]
  exact dg hn (E2 (Q3 (fg (oh hc.1).1) (by decide)))
 ·split
  ·exact dg hn
  ·cases hf:iL.find? (fun k=>decide (dR k=w)) with
   | some k =>
    obtain⟨h1,h2⟩:=hln (by rw[hf]; simp)
    exact Jw HB h1 hd0 h2 hn
   | none=>exact qB hn
end
theorem E3 {w:ae} (h:iL.find? (fun k=>decide (dR k=w))≠none) : ∃ k,iL.find? (fun k=>decide (dR k=w))=some k∧dR k=w∧k∈iL∧w≠[]:=by
 cases hf:iL.find? (fun k=>decide (dR k=w)) with
 | none=>exact P1 hf h
 | some k =>
  have h1:=List.find?_some hf
  have h2:=List.mem_of_find?_eq_some hf
  have h3:dR k=w:=by simpa using h1
  refine⟨k,rfl,h3,h2,?_⟩
  have : ∀ k∈iL,dR k≠[]:=by decide
  rw[←h3]
  exact this k h2
theorem E4 {l:ae} (h:(bl l).takeWhile aK≠[]):((bl l).dropWhile aK).length < l.length:=by
 have h1:=au (al l)
 have h2:=N1 N0 (List.takeWhile_append_dropWhile (p:=aK) (l:=bl l))
 rw[M6] at h2
 have h3:=Y3.2 h
 omega
theorem Gt {l:ae} {b:Bool} {ns:List ab} (hl:l.length≤900) (hn:ns.length≤60):ed (34 :: l) b ns (fE (ba (34 :: l)) b ns):=by
 rw[xO hl]
 cases hq:qt l with
 | none=>exact qB hn
 | some p =>
  obtain⟨h1,h2,_⟩:=HZ l p.1 p.2 hq
  show ed _ b ns (bm _ _ b ns)
  rw[jB]
  refine(dg hn (E2 ?_)).mono (ac h1 ⟨[34],rfl⟩) id (T2 _)
  show(ba ([]++p.1)).size≤_
  rw[aB]
  simp only[X3]
  omega
theorem Ag (l:ae):(bl (35 :: l)).takeWhile aK=[]∧(bl (35 :: l)).dropWhile aK=35 :: l:=by
 have h1:bl (35 :: l)=35 :: l:=S6 (by decide)
 rw[h1]
 exact⟨X5 (by decide),S6 (by decide)⟩
theorem E5 {deep:Int} {l:ae} {b:Bool} {ns:List ab} (hl:l.length≤800):cp deep 1 (ba (35 :: l)) b ns=match qz.find? (qA l) with
  | some n=>bm (vE n) (ba (l.drop (jA n).length)) b ns
  | none=>some ((-1,()),((ba (35 :: l),ns,true,()),())):=by
 have h:=Ac (deep:=deep) (l:=l) (b:=b) (ns:=ns) (by omega) qz [] rfl
 have h:cp deep 1 (ba (35 :: l)) b ns=_:=h
 rw[h]
 cases qz.find? (qA l) with
 | some n=>rfl
 | none =>
  simp only
  rw[LM (by rw[N3]; omega),(Ag l).1,(Ag l).2]
  have e1 : ¬((bn []).2=true∧((bn []).1.1=1∨(bn []).1.1=3)):=by decide +kernel
  have e2 : ¬(bU []).2=true:=by decide +kernel
  have e3:iL.find? (fun k=>decide (dR k=[]))=none:=by decide +kernel
  unfold eJ
  rw[M2 e1,M2 e2,e3]
theorem Jy {l:ae} (HB : ∀ l':ae,l'.length < l.length → ∀(deep least:Int) (b:Bool) (ns:List ab),0≤deep→deep+(l'.length:Int)≤400→ns.length≤60→ed l' b ns (bb least deep (ba l') b ns))
  {deep:Int} {b:Bool} {ns:List ab} (hd0:0≤deep) (hd:deep+(l.length:Int)≤400) (hn:ns.length≤60):ed l b ns (j8 deep (ba l) b ns):=by
 have hbl:=au (al l)
 rw[CY (by omega)]
 by_cases c1:(bl l).head? = some 34
 ·rw[M5 c1]
  obtain⟨t,ht⟩:=fR c1
  have htl:t.length+1=(bl l).length:=by rw[ht]; simp
  rw[ht]
  exact(Gt (by omega) hn).mono (by rw[←ht]; exact al l) id (T2 _)
 ·rw[M2 c1]
  by_cases c2:(bl l).head? = some 35
  ·rw[M5 c2]
   obtain⟨t,ht⟩:=fR c2
   have htl:t.length+1=(bl l).length:=by rw[ht]; simp
   have hts:t <:+ l:=ac ⟨[35],by rw[ht]; rfl⟩ (al l)
   rw[ht,E5 (by omega)]
   cases qz.find? (qA t) with
   | some n =>
    simp only
    rw[jB]
    exact(dg hn (E2 (by show eS.size≤_; decide))).mono (ac (dB _ _) hts) id (T2 _)
   | none=>exact(qB hn).mono (by rw[←ht]; exact al l) id (T2 _)
  ·rw[M2 c2]
   by_cases c3:(bl l).head? = some 40
   ·rw[M5 c3]
    have hlt:=jm c3
    rw[wr (by omega) (by omega)]
    obtain⟨i2,l2,b2,ns2,h2,k1,k2,k3,k4,k5⟩:=HB _ hlt (deep+1) 1 b ns (by omega) (by omega) hn
    rw[h2]
    simp only[M0]
    have hl2:=au k1
    have hs2:l2 <:+ l:=ac k1 (eq l)
    cases b2 with
    | true =>
     simp only[O4]
     exact⟨i2,l2,true,ns2,rfl,hs2,fun _=>rfl,k3,k4,k5⟩
    | false =>
     simp only[M8,O0]
     rw[show(⟨#[41]⟩:L9)=ba [41] from rfl,cL (by omega)]
     simp only[M0]
     refine⟨i2,_,_,ns2,rfl,?_,(fun h=>by have:=k2 h; cases this),k3,k4,k5⟩
     split
     ·exact ac (ac (dB _ _) (al _)) hs2
     ·exact ac (al _) hs2
   ·rw[M2 c3]
    refine(Jx HB (fun h => ?_) hd0 hn).mono (C0 l) id (T2 _)
    obtain⟨k,_,_,_,hw⟩:=E3 h
    have:=E4 hw
    omega
theorem H4 : ∀(m:Nat) (l:ae),l.length=m→(∀ l':ae,l'.length < l.length → ∀(deep least:Int) (b:Bool) (ns:List ab),0≤deep→deep+(l'.length:Int)≤400→ns.length≤60→ed l' b ns (bb least deep (ba l') b ns)) →
  ∀(deep:Int) (b:Bool) (ns:List ab),0≤deep→deep+(l.length:Int)≤400→ns.length≤60→ed l b ns (ga deep (ba l) b ns):=by
 intro m
 induction m using Nat.strongRecOn with
 | ind m ih =>
  intro l hm HB deep b ns hd0 hd hn
  subst hm
  rw[nS,aq (by omega)]
  cases b with
  | true =>
   simp only[O4]
   exact qB hn
  | false =>
   simp only[M8,O0,fj]
   rw[show(⟨#[45]⟩:L9)=ba [45] from rfl,cL (by omega)]
   simp only[M0,iK (c:=45) (.inl rfl),M3]
   have hbl:=au (al l)
   by_cases hc:(bl l).head? = some 45
   ·have hlt:=jm hc
    simp only[hc,Q6,O4]
    rw[wr (by omega) (by omega)]
    obtain⟨i2,l2,b2,ns2,h2,k1,k2,k3,k4,k5⟩:=ih _ hlt _ rfl (fun l' h'=>HB l' (by omega)) (deep+1) false ns (by omega) (by omega) hn
    rw[h2]
    simp only[M0]
    exact(dg k4).mono (ac k1 (eq l)) (fun h=>by cases h) k3 k5
   ·simp only[hc,S0,M8,O0]
    exact(Jy (l:=bl l) (fun l' h'=>HB l' (by omega)) hd0 (by omega) hn).mono (al l) id (T2 _)
theorem yS {least deep left:Int} {op:Int} {l:ae} {ns:List ab} (ho:0≤op) (ho2:op≤11) (hl:l.length≤900) (hs:op≠0→sg (bl l)=cY op):bF least deep left op 12 (ba l) false ns =
  if op=0∨cr op < least then some ((left,()),((ba l,ns,false,()),()))
  else((bb (cr op+1) deep (ba ((bl l).drop (cY op).length)) false ns).bind fun z7=>((aG (5,op,(0,0,(⟨#[]⟩:L9),()),((0,0,()),false,false,()),((0,0,()),false,false,()),([left,z7.1.1]:(List Int)),()) z7.2.1.1 z7.2.1.2.2.1 z7.2.1.2.1).bind fun z8=>(dj least deep z8.1.1 z8.2.1.1 z8.2.1.2.2.1 z8.2.1.2.1))):=by
 rw[ke,aq (by decide)]
 by_cases h0:op=0
 ·rw[M5 (by rw[h0]; rfl),M5 (.inl h0)]
 ·have h0' : ¬(op == 0)=true:=by simpa using h0
  have hlv:1≤cr op∧cr op≤4:=by
   unfold cr
   repeat' split
   all_goals omega
  rw[M2 h0',Aa (by omega) ho2]
  simp only[M0]
  by_cases h1:cr op < least
  ·rw[av h1,M5 (.inr h1)]
  ·rw[aq h1,M2 (by omega),rF ho ho2]
   simp only[M0]
   rw[cL (by omega),hs h0]
   simp only[M0,O4]
   rw[wr (by omega) (by omega)]
theorem C1 {l:ae} (h:dC (bl l)≠0):((bl l).drop (cY (dC (bl l))).length).length < l.length:=by
 have h1:=au (al l)
 have h2:=rE h
 have h3:=uw (CM (bl l))
 have h4:1≤(cY (dC (bl l))).length:=by
  have:=lO (bl l)
  have h5 : ∀ k:Fin 12,k.val≠0→1≤(cY (k.val:Int)).length:=by decide
  have:=h5 ⟨(dC (bl l)).toNat,by omega⟩ (by simp only; omega)
  simp only[T7 (lO (bl l)).1] at this
  exact this
 rw[h2] at h3
 rw[X0]
 omega
theorem rJ : ∀(m:Nat) (l:ae),l.length=m→(∀ l':ae,l'.length < l.length → ∀(deep least:Int) (b:Bool) (ns:List ab),0≤deep→deep+(l'.length:Int)≤400→ns.length≤60→ed l' b ns (bb least deep (ba l') b ns)) →
  ∀(least deep left:Int) (b:Bool) (ns:List ab),0≤deep→deep+(l.length:Int)≤400→ns.length≤60→ed l b ns (dj least deep left (ba l) b ns):=by
 intro m
 induction m using Nat.strongRecOn with
 | ind m ih =>
  intro l hm HB least deep left b ns hd0 hd hn
  subst hm
  rw[f5]
  cases b with
  | true=>exact qB hn
  | false =>
   simp only[O8,O4]
   have hbl:=au (al l)
   obtain⟨o1,o2⟩:=lO (bl l)
   rw[wg (by omega),yS o1 o2 (by omega) (fun h=>by rw[cw]; exact rE h),cw]
   split
   ·exact⟨left,bl l,false,ns,rfl,al l,fun h=>h,T2 _,hn,id⟩
   ·rename_i hop
    have hop':dC (bl l)≠0:=fun e=>hop (.inl e)
    have hlt:=C1 hop'
    obtain⟨i2,l2,b2,ns2,h2,k1,k2,k3,k4,k5⟩:=HB _ hlt deep (cr (dC (bl l))+1) false ns hd0 (by omega) hn
    rw[h2]
    simp only[M0]
    obtain⟨i3,l3,b3,ns3,h3,j1,j2,j3,j4,j5⟩:=dg (x:=(5,dC (bl l),(0,0,(⟨#[]⟩:L9),()),((0,0,()),false,false,()),((0,0,()),false,false,()),([left,i2]:(List Int)),())) (l:=l2) (b:=b2) k4
    rw[h3]
    simp only[M0]
    have hs2:=au k1
    have hs3:=au j1
    exact(ih _ (by omega) l3 rfl (fun l' h'=>HB l' (by omega)) least deep i3 b3 ns3 hd0 (by omega) j4).mono (ac j1 (ac k1 (ac (dB _ _) (al l)))) (fun h=>by cases h) (List.IsPrefix.trans k3 j3) (fun h=>j5 (k5 h))
theorem Gu : ∀(m:Nat) (l:ae),l.length=m → ∀(deep least:Int) (b:Bool) (ns:List ab),0≤deep→deep+(l.length:Int)≤400→ns.length≤60→ed l b ns (bb least deep (ba l) b ns):=by
 intro m
 induction m using Nat.strongRecOn with
 | ind m ih =>
  intro l hm deep least b ns hd0 hd hn
  subst hm
  have HB : ∀ l':ae,l'.length < l.length → ∀(deep least:Int) (b:Bool) (ns:List ab),0≤deep→deep+(l'.length:Int)≤400→ns.length≤60→ed l' b ns (bb least deep (ba l') b ns) :=
   fun l' h' deep least b ns d0 d1 hn=>ih _ h' l' rfl deep least b ns d0 d1 hn
  rw[mj]
  obtain⟨i2,l2,b2,ns2,h2,k1,k2,k3,k4,k5⟩:=H4 _ l rfl HB deep b ns hd0 hd hn
  rw[h2]
  simp only[M0]
  have hs2:=au k1
  exact(rJ _ l2 rfl (fun l' h'=>HB l' (by omega)) least deep i2 b2 ns2 hd0 (by omega) k4).mono k1 k2 k3 k5
abbrev RS:=Option ((Int×Unit)×(gj×Unit))
def cx (ns:List ab):Bool:=ns.all dw
theorem H5 {ns ns':List ab} (h:ns <+: ns') (k:cx ns=false):cx ns'=false:=by
 obtain⟨r,rfl⟩:=h
 unfold cx at k ⊢
 rw[W1,k]
 rfl
def Dm (b:Bool) (ns:List ab):Prop:=(b=true∨cx ns=false)∧sm ns=true
theorem H6 {x:ab} (h:dw x=true):oX x=true:=by
 have:x.2.2.1.2.2.1.size≤100000∧x.2.2.2.2.2.1.length≤100000:=by
  unfold dw kl at h
  split at h
  ·simp only[M7,M9] at h
   have:=fg h.1.1.2
   omega
  ·split at h
   ·simp only[M7,M9] at h
    rw[h.1.1.1.2]
    exact⟨by decide,by omega⟩
   ·split at h
    ·simp only[M7,M9] at h
     rw[h.1.1.2]
     exact⟨by decide,by omega⟩
    ·split at h
     ·simp only[M7,M9] at h
      rw[h.1.1.1.2]
      exact⟨by decide,by omega⟩
     ·split at h
      ·simp only[M7,M9] at h
       rw[h.1.1.1.2]
       exact⟨by decide,by omega⟩
      ·split at h
       ·simp only[M7,M9] at h
        rw[h.1.1.2]
        refine⟨by decide,?_⟩
        have h2:=h.1.1.1
        unfold oa at h2
        split at h2
        ·simp only[Bool.or_eq_true,M9] at h2
         omega
        ·split at h2
         ·have:=bu.1 h2
          omega
         ·split at h2
          ·simp only[M9] at h2
           omega
          ·cases h2
       ·cases h
 unfold oX
 rw[O6 this.1,O6 this.2]
 rfl
theorem rK {ns:List ab} (h:cx ns=true):sm ns=true:=by
 unfold cx at h
 unfold sm
 rw[T1] at h ⊢
 exact fun x hx=>H6 (h x hx)
theorem xR {ns:List ab} (h:cx ns=true):Dm true ns:=⟨.inl rfl,rK h⟩
theorem ed.dm {l:ae} {b:Bool} {ns:List ab} {F:RI} (h:ed l b ns F) (hd:Dm b ns) : ∃(i:Int) (l':ae) (b':Bool) (ns':List ab),F=some ((i,()),((ba l',ns',b',()),()))∧l' <:+ l∧Dm b' ns'∧ns'.length≤60:=by
 obtain⟨i,l',b',ns',e,k1,k2,k3,k4,k5⟩:=h
 exact⟨i,l',b',ns',e,k1,⟨hd.1.elim (fun h => .inl (k2 h)) (fun h => .inr (H5 k3 h)),k5 hd.2⟩,k4⟩
def iM (s m:ae) (L:Int) (F:RI) (G:RS):Prop :=
 (∃(i:Int) (l1 l2:ae) (ns:List ab),F=some ((i,()),((ba l1,ns,false,()),()))∧G=some ((i,()),((ba s,bd s l2,false,ns,()),()))∧bl l1=bl l2∧l1 <:+ m∧l2 <:+ m∧cx ns=true∧ns.length≤60∧(dC (bl l1)=0∨cr (dC (bl l1)) < L))
 ∨ (∃(i:Int) (l1:ae) (b1:Bool) (ns1:List ab) (j:Int) (l2:ae) (ns2:List ab),F=some ((i,()),((ba l1,ns1,b1,()),()))∧Dm b1 ns1∧l1 <:+ m∧ns1.length≤60∧G=some ((j,()),((ba s,bd s l2,true,ns2,()),()))∧l2 <:+ s∧ns2.length≤61+m.length)
theorem Gv (k:Int):cr k < 5:=by
 unfold cr
 repeat' split
 all_goals omega
theorem iM.mono {s m m':ae} {L:Int} {F:RI} {G:RS} (h:iM s m L F G) (hm:m <:+ m'):iM s m' L F G:=by
 have:=au hm
 rcases h with⟨i,l1,l2,ns,e1,e2,h1,h2,h3,h4,h5,h6⟩ | ⟨i,l1,b1,ns1,j,l2,ns2,e1,h1,h2,h3,e2,h4,h5⟩
 ·exact .inl ⟨i,l1,l2,ns,e1,e2,h1,ac h2 hm,ac h3 hm,h4,h5,h6⟩
 ·exact .inr ⟨i,l1,b1,ns1,j,l2,ns2,e1,h1,ac h2 hm,h3,e2,h4,by omega⟩
theorem E6 {ns:List ab} {x:ab} (h:sm ns=true) (hx:oX x=true):sm (ns++[x])=true:=by
 unfold sm at h ⊢
 rw[W1,h]
 simp[hx]
theorem C2 {x:ab} (h:oX x=true):x.2.2.1.2.2.1.size≤9223372036854775807:=by
 unfold oX at h
 rw[M7,M9] at h
 exact Q3 h.1 (by decide)
theorem kZ {s m l1 l2:ae} {x:ab} {ns:List ab} (hsx:oX x=true) (h1:bl l1=bl l2) (k1:l1 <:+ m) (k2:l2 <:+ m) (hms:m <:+ s) (ho:cx ns=true) (hn:ns.length≤60) :
  iM s m 5 (aG x (ba l1) false ns) (bz x (ba s) (bd s l2) false ns):=by
 have hx:=C2 hsx
 obtain⟨i,e,hi⟩:=ux (x:=x) (l:=l1) (b:=false) hn
 rw[e,yO (by omega) hx]
 by_cases hlt:ns.length < 60
 ·have hi:=hi rfl hlt
  subst hi
  have d60:decide (60≤ns.length)=false:=O7 (by omega)
  rw[d60,M5 ⟨rfl,hlt⟩]
  simp only[Y9]
  cases hk:dw x with
  | true =>
   refine .inl ⟨_,l1,l2,ns++[x],rfl,rfl,h1,k1,k2,?_,?_,.inr (Gv _)⟩
   ·unfold cx at ho ⊢
    rw[W1,ho]
    simp[hk]
   ·rw[M6,M3]; omega
  | false =>
   refine .inr ⟨_,l1,false,ns++[x],(ns.length:Int),l2,ns++[x],rfl,⟨.inr ?_,E6 (rK ho) hsx⟩,k1,?_,rfl,ac k2 hms,?_⟩
   ·unfold cx
    rw[W1]
    simp[hk]
   ·rw[M6,M3]; omega
   ·rw[M6,M3]; omega
 ·have d60:decide (60≤ns.length)=true:=O6 (by omega)
  rw[d60,M2 (by omega)]
  refine .inr ⟨i,l1,true,ns,(ns.length:Int),l2,ns++[x],rfl,xR ho,k1,hn,?_,ac k2 hms,?_⟩
  ·simp
  ·rw[M6,M3]; omega
theorem C3 {s:ae} {a:Int} {x:ab} {ns:List ab} (hn:ns.length≤1000) (hx:x.2.2.1.2.2.1.size≤9223372036854775807):bz x (ba s) a true ns=some (((ns.length:Int),()),((ba s,a,true,ns++[x],()),())):=by
 rw[yO hn hx]
 rfl
theorem Gw {op:Int} {s:L9} {a:Int} {b:Bool} {ns:List ab} {kids:List Int}:lY op s a b ns kids=cc op s a b kids ns:=by
 rw[vY,io]
theorem Ah {op:Int} {s:L9} {a:Int} {ns:List ab} {kids:List Int}:cc op s a true kids ns=some ((0,()),((s,a,true,ns,()),())):=by
 rw[io]
 rfl
abbrev nF (op:Int) (kids:List Int):ab:=(6,op,(0,0,(⟨#[]⟩:L9),()),((0,0,()),false,false,()),((0,0,()),false,false,()),kids,())
noncomputable def rL (op deep:Int) (y:List Int) (r:L9) (b:Bool) (ns:List ab):RI :=
 (aY (⟨#[44]⟩:L9) r b ns).bind fun z3=>(if(!z3.1.1)=true then(if z3.2.1.2.2.1=true then((aG (nF op y) z3.2.1.1 true z3.2.1.2.1).bind fun z4=>(some ((z4.1.1,()),(z4.2.1,())))) else((aY (⟨#[41]⟩:L9) z3.2.1.1 z3.2.1.2.2.1 z3.2.1.2.1).bind fun z5=>((aG (nF op y) z5.2.1.1 (!z5.1.1) z5.2.1.2.1).bind fun z6=>(some ((z6.1.1,()),(z6.2.1,())))))) else(bN op deep z3.2.1.1 z3.2.1.2.2.1 y z3.2.1.2.1))
theorem Ej {op deep:Int} {l:ae} {kids:List Int} {ns:List ab} (hl:l.length≤900):bN op deep (ba l) false kids ns =
  if Ae (bl l)=true then(aG (nA (bU ((bl l).takeWhile aK)).1 (bU ((fQ (bl l)).takeWhile aK)).1) (ba ((fQ (bl l)).dropWhile aK)) (!(bU ((fQ (bl l)).takeWhile aK)).2) ns).bind fun z2=>(mf kids ([z2.1.1]:(List Int)) 8 fun y1=>rL op deep y1 z2.2.1.1 z2.2.1.2.2.1 z2.2.1.2.1)
  else(bb 1 (IntKind.i64.wrap (deep+1)) (ba l) false ns).bind fun z7=>(mf kids ([z7.1.1]:(List Int)) 8 fun y2=>rL op deep y2 z7.2.1.1 z7.2.1.2.2.1 z7.2.1.2.1):=by
 rw[gn]
 simp only[O8,O4]
 rw[CZ hl]
 by_cases ha:Ae (bl l)=true
 ·rw[M5 ha,M5 ha]
  simp only[M0,O4,Y9]
  rfl
 ·rw[M2 ha,M2 ha]
  simp only[M0,M8,O0]
  rfl
theorem uz : ∀(l:ae),∀(deep least:Int) (b:Bool) (ns:List ab),0≤deep→deep+(l.length:Int)≤400→ns.length≤60→ed l b ns (bb least deep (ba l) b ns):=fun l=>Gu _ l rfl
theorem rM {op deep:Int} {y:List Int} {l:ae} {b:Bool} {ns:List ab} (hd0:0≤deep) (hd:deep+1+(l.length:Int)≤400) (hy:y.length+l.length≤9000) (hn:ns.length≤60):ed l b ns (rL op deep y (ba l) b ns):=by
 have hbl:=au (al l)
 unfold rL
 rw[show(⟨#[44]⟩:L9)=ba [44] from rfl,cL (by omega)]
 simp only[M0,fj]
 by_cases hc:sg (bl l)=[44]
 ·have hc':(bl l).head? = some 44:=by rw[←iK (c:=44) (.inr (.inr (.inr (.inl rfl))))]; exact hc
  have hlt:=jm hc'
  simp only[hc,Q6,O5,M8,O0,O4,M3]
  exact(Af (n:=l.length+1) (fun l' _ deep least b ns d0 d1 hn=>uz l' deep least b ns d0 d1 hn) _ _ op deep b y ns rfl (by omega) hd0 (by omega) (by omega) hn).mono (eq l) id (T2 _)
 ·simp only[hc,S0,O8,O4,O0]
  cases b with
  | true =>
   simp only[O4]
   exact(dg hn (xQ (by omega))).mono (al l) (fun _=>rfl) (T2 _)
  | false =>
   simp only[M8,O0]
   rw[show(⟨#[41]⟩:L9)=ba [41] from rfl,cL (by omega)]
   simp only[M0,fj]
   refine(dg hn (xQ (by omega))).mono ?_ (fun h=>by cases h) (T2 _)
   split
   ·exact ac (ac (dB _ _) (al _)) (al l)
   ·exact ac (al _) (al l)
noncomputable def uA (op:Int) (y:List Int) (s:L9) (a:Int) (b:Bool) (ns:List ab):RS :=
 (cy (⟨#[41]⟩:L9) s a b ns).bind fun z2=>(if z2.1.1=true then((bz (nF op y) z2.2.1.1 z2.2.1.2.1 z2.2.1.2.2.1 z2.2.1.2.2.2.1).bind fun z3=>(some ((z3.1.1,()),(z3.2.1,())))) else((cy (⟨#[44]⟩:L9) z2.2.1.1 z2.2.1.2.1 z2.2.1.2.2.1 z2.2.1.2.2.2.1).bind fun z4=>(if(!z4.1.1)=true then(cc op z4.2.1.1 z4.2.1.2.1 true y z4.2.1.2.2.2.1) else(cc op z4.2.1.1 z4.2.1.2.1 z4.2.1.2.2.1 y z4.2.1.2.2.2.1))))
theorem oY {op:Int} {y:List Int} {s l:ae} {ns:List ab} (hs:s.length≤900) (h:l <:+ s) : ∃ l',l' <:+ s∧uA op y (ba s) (bd s l) true ns=some ((0,()),((ba s,bd s l',true,ns,()),())):=by
 unfold uA
 rw[show(⟨#[41]⟩:L9)=ba [41] from rfl,eI (by omega) (by decide) h]
 simp only[M0,O5,Bool.false_and,M8,O0]
 rw[show(⟨#[44]⟩:L9)=ba [44] from rfl,eI (by omega) (by decide) (ac (al l) h)]
 simp only[M0,O5,Bool.false_and,M8,O0,O8,O4]
 exact⟨bl (bl l),ac (al _) (ac (al l) h),Ah⟩
theorem Ek {op:Int} {s l:ae} {kids:List Int} {ns:List ab}:cc op (ba s) (bd s l) false kids ns=(lE (ba s) (bd s l) false ns).bind fun z1=>(mf kids ([z1.1.1]:(List Int)) 8 fun y1=>uA op y1 z1.2.1.1 z1.2.1.2.1 z1.2.1.2.2.1 z1.2.1.2.2.2.1):=by
 rw[io]
 rfl
theorem Kz {s l:ae} {ns:List ab} (hs:s.length≤900) (h:l <:+ s):lE (ba s) (bd s l) false ns =
  if Ae (bl l)=true then(if(bU ((fQ (bl l)).takeWhile aK)).2=true then bz (nA (bU ((bl l).takeWhile aK)).1 (bU ((fQ (bl l)).takeWhile aK)).1) (ba s) (bd s ((fQ (bl l)).dropWhile aK)) false ns
   else some ((0,()),((ba s,bd s ((fQ (bl l)).dropWhile aK),true,ns,()),())))
  else da 1 (ba s) (bd s (bl l)) false ns:=by
 have hm:=ac (al l) h
 have hr:=ac (C0 l) h
 have hsl:=au h
 have h1:=au (al l)
 have h2:=gP aK (bl l)
 have h3:=au (yR l)
 rw[Cs,CO (by omega) h]
 simp only[M0]
 rw[wh (by omega) hm]
 simp only[M0]
 rw[mc (by omega)]
 simp only[M0]
 unfold Ae
 cases hp:(bU ((bl l).takeWhile aK)).2 with
 | false=>simp only[Bool.false_and,M8,O0,ec]
 | true =>
  simp only[O4,P4]
  rw[show(⟨#[58]⟩:L9)=ba [58] from rfl,eI (by omega) (by decide) hr]
  simp only[M0,O8,P4,v8]
  by_cases hc:(bl ((bl l).dropWhile aK)).head? = some 58
  ·simp only[hc,Q6,O4,M3]
   have hq:(bl ((bl l).dropWhile aK)).drop 1 <:+ s:=ac (eq _) hr
   rw[CO (by omega) hq]
   simp only[M0]
   have hq2:fQ (bl l) <:+ s:=ac (al _) hq
   rw[show bl ((bl ((bl l).dropWhile aK)).drop 1)=fQ (bl l) from rfl,wh (by omega) hq2]
   simp only[M0]
   have h4:=gP aK (fQ (bl l))
   have h5:=au hq2
   rw[mc (by omega)]
   simp only[M0,ec]
   cases (bU ((fQ (bl l)).takeWhile aK)).2 <;> simp
  ·simp only[hc,S0,M8,O0,ec]
theorem k6 {s m m':ae} {L L':Int} {F:RI} {G:RS} {K:(Int×Unit)×(kK×Unit)→RI} {K':(Int×Unit)×(gj×Unit)→RS} (h:iM s m L F G)
  (hg : ∀(i:Int) (l1 l2:ae) (ns:List ab),bl l1=bl l2→l1 <:+ m→l2 <:+ m→cx ns=true→ns.length≤60→(dC (bl l1)=0∨cr (dC (bl l1)) < L)→iM s m' L' (K ((i,()),((ba l1,ns,false,()),()))) (K' ((i,()),((ba s,bd s l2,false,ns,()),()))))
  (hd : ∀(i:Int) (l1:ae) (b1:Bool) (ns1:List ab) (j:Int) (l2:ae) (ns2:List ab),Dm b1 ns1→l1 <:+ m→ns1.length≤60→l2 <:+ s→ns2.length≤61+m.length→iM s m' L' (K ((i,()),((ba l1,ns1,b1,()),()))) (K' ((j,()),((ba s,bd s l2,true,ns2,()),())))) :
  iM s m' L' (F.bind K) (G.bind K'):=by
 rcases h with⟨i,l1,l2,ns,rfl,rfl,h1,h2,h3,h4,h5,h6⟩ | ⟨i,l1,b1,ns1,j,l2,ns2,rfl,h1,h2,h3,rfl,h4,h5⟩
 ·exact hg i l1 l2 ns h1 h2 h3 h4 h5 h6
 ·exact hd i l1 b1 ns1 j l2 ns2 h1 h2 h3 h4 h5
theorem fp {s m:ae} {L:Int} {F:RI} {G:RS} {l1:ae} {b1:Bool} {ns1:List ab} {j:Int} {l2:ae} {ns2:List ab} (hF:ed l1 b1 ns1 F) (hd:Dm b1 ns1) (h1:l1 <:+ m) (hG:G=some ((j,()),((ba s,bd s l2,true,ns2,()),()))) (h2:l2 <:+ s) (h3:ns2.length≤61+m.length):iM s m L F G:=by
 obtain⟨i,l',b',ns',e,k1,k2,k3⟩:=hF.dm hd
 exact .inr ⟨i,l',b',ns',j,l2,ns2,e,k2,ac k1 h1,k3,hG,h2,h3⟩
def H7 (s:ae) (n:Nat):Prop := ∀(l l0:ae),bl l=bl l0→l <:+ s→l0 <:+ s→(bl l).length < n → ∀(L deep:Int) (ns:List ab),1≤L→L≤5→0≤deep→deep+((bl l).length:Int)≤200→cx ns=true→ns.length≤60 →
 iM s (bl l) L (bb L deep (ba l) false ns) (da L (ba s) (bd s l0) false ns)
theorem f7 {c:UInt8} {l:ae}:([c]:ae).isPrefixOf l=decide (l.head? = some c):=v8 c l
theorem Jz {s:ae} (hs:s.length≤200) {n:Nat} (HB:H7 s n) : ∀(k:Nat) (l1 l2:ae),(bl l1).length=k→bl l1=bl l2→l1 <:+ s→l2 <:+ s→(bl l1).length < n → ∀(op deep:Int) (kids:List Int) (ns:List ab),0≤deep→deep+1+((bl l1).length:Int)≤200→kids.length+(bl l1).length≤1000→cx ns=true→ns.length≤60 →
  iM s (bl l1) 5 (bN op deep (ba l1) false kids ns) (cc op (ba s) (bd s l2) false kids ns):=by
 intro k
 induction k using Nat.strongRecOn with
 | ind k ih =>
  intro l1 l2 hk hb hs1 hs2 hn op deep kids ns hd0 hd hkl ho hns
  subst hk
  have hl1:=au hs1
  have hm1:=au (al l1)
  have hms:bl l1 <:+ s:=ac (al l1) hs1
  rw[Ej (by omega),Ek,Kz (by omega) hs2,←hb]
  have doom : ∀(y:List Int) (x1:ae) (b1:Bool) (ns1:List ab) (x2:ae) (ns2:List ab),y.length=kids.length+1→Dm b1 ns1→x1 <:+ bl l1→ns1.length≤60→x2 <:+ s→ns2.length≤61+(bl l1).length →
    iM s (bl l1) 5 (rL op deep y (ba x1) b1 ns1) (uA op y (ba s) (bd s x2) true ns2):=by
   intro y x1 b1 ns1 x2 ns2 hy hdm hx1 hn1 hx2 hn2
   have hlx:=au hx1
   obtain⟨l',h1,h2⟩:=oY (op:=op) (y:=y) (ns:=ns2) (by omega) hx2
   exact fp (rM hd0 (by omega) (by omega) hn1) hdm hx1 h2 h1 hn2
  have good : ∀(y:List Int) (x1 x2:ae) (ns:List ab),y.length=kids.length+1→bl x1=bl x2→x1 <:+ bl l1→x2 <:+ bl l1→cx ns=true→ns.length≤60 →
    iM s (bl l1) 5 (rL op deep y (ba x1) false ns) (uA op y (ba s) (bd s x2) false ns):=by
   intro y x1 x2 ns hy hbx hx1 hx2 ho hn
   have hlx:=au hx1
   have hblx:=au (al x1)
   have hx2s:=ac hx2 hms
   have c41 : ¬(41:UInt8)=44:=by decide
   have c44 : ¬(44:UInt8)=41:=by decide
   unfold rL uA
   rw[show(⟨#[44]⟩:L9)=ba [44] from rfl,show(⟨#[41]⟩:L9)=ba [41] from rfl,cL (by omega),eI (by omega) (by decide) hx2s]
   simp only[M0,iK (c:=44) (.inr (.inr (.inr (.inl rfl)))),fj,ec,M3,O8,P4,f7,←hbx]
   by_cases h44:(bl x1).head? = some 44
   ·have h41 : ¬(bl x1).head? = some 41:=by rw[h44]; simp
    simp only[h44,h41,Q6,S0,O5,M8,O0,O4,O2,c44]
    rw[eI (by omega) (by decide) (ac (al x1) (ac hx1 hms))]
    simp only[M0,O8,P4,f7,cw,h44,Q6,O4,O5,M8,O0,M3]
    have hlt:=jm h44
    have hb2:=au (al ((bl x1).drop 1))
    have hsx:(bl x1).drop 1 <:+ bl l1:=ac (eq x1) hx1
    exact(ih _ (by omega) _ _ rfl rfl (ac hsx hms) (ac hsx hms) (by omega) op deep y ns hd0 (by omega) (by omega) ho hn).mono (ac (al _) hsx)
   ·simp only[h44,S0,O8,O4,O0,M8]
    rw[cL (by omega)]
    simp only[M0,iK (c:=41) (.inr (.inr (.inl rfl))),cw,M3]
    by_cases h41:(bl x1).head? = some 41
    ·simp only[h41,Q6,O4,O5]
     have hsx:(bl x1).drop 1 <:+ bl l1:=ac (eq x1) hx1
     exact kZ (xQ (by omega)) rfl hsx hsx hms ho hn
    ·simp only[h41,S0,O0,O8,M8]
     rw[eI (by omega) (by decide) (ac (al x1) (ac hx1 hms))]
     simp only[M0,O8,P4,f7,cw,h44,S0,O4,M8,O0]
     have hsx:bl x1 <:+ bl l1:=ac (al x1) hx1
     exact fp (dg hn (xQ (by omega))) (xR ho) hsx Ah (ac hsx hms) (by omega)
  by_cases ha:Ae (bl l1)=true
  ·rw[M5 ha,M5 ha]
   have hX:(fQ (bl l1)).dropWhile aK <:+ bl l1:=by
    have:=yR (bl l1)
    rw[cw] at this
    exact this
   cases h2:(bU ((fQ (bl l1)).takeWhile aK)).2 with
   | true =>
    simp only[O5,O4]
    refine k6 (kZ (m:=bl l1) rfl rfl hX hX hms ho hns) ?_ ?_
    ·intro i x1 x2 ns' e1 e2 e3 e4 e5 _
     simp only
     rw[dv (by simp only[M3]; omega),dv (by simp only[M3]; omega)]
     exact good _ _ _ _ (by simp) e1 e2 e3 e4 e5
    ·intro i x1 b1 ns1 j x2 ns2 e1 e2 e3 e4 e5
     simp only
     rw[dv (by simp only[M3]; omega),dv (by simp only[M3]; omega)]
     have:kids++[i]=kids++[i]:=rfl
     by_cases hij:i=j
     ·subst hij
      exact doom _ _ _ _ _ _ (by simp) e1 e2 e3 e4 e5
     ·obtain⟨l',h1,h2⟩:=oY (op:=op) (y:=kids++[j]) (ns:=ns2) (by omega) e4
      have hlx:=au e2
      exact fp (rM hd0 (by omega) (by simp only[M6,M3]; omega) e3) e1 e2 h2 h1 e5
   | false =>
    simp only[O8,M8,O0]
    obtain⟨i,h3,_⟩:=ux (x:=nA (bU ((bl l1).takeWhile aK)).1 (bU ((fQ (bl l1)).takeWhile aK)).1) (l:=(fQ (bl l1)).dropWhile aK) (b:=true) hns
    rw[h3]
    simp only[M0,Bool.true_eq_false,false_and,O0,Bool.true_or]
    rw[dv (by simp only[M3]; omega),dv (by simp only[M3]; omega)]
    obtain⟨l',h1,h2⟩:=oY (op:=op) (y:=kids++[0]) (ns:=ns) (by omega) (ac hX hms)
    have hlx:=au hX
    exact fp (rM hd0 (by omega) (by simp only[M6,M3]; omega) hns) (xR ho) hX h2 h1 (by omega)
  ·rw[M2 ha,M2 ha,wr (by omega) (by omega)]
   refine k6 (HB l1 (bl l1) (cw l1).symm hs1 hms hn 1 (deep+1) ns (by decide) (by decide) (by omega) (by omega) ho hns) ?_ ?_
   ·intro i x1 x2 ns' e1 e2 e3 e4 e5 _
    simp only
    rw[dv (by simp only[M3]; omega),dv (by simp only[M3]; omega)]
    exact good _ _ _ _ (by simp) e1 e2 e3 e4 e5
   ·intro i x1 b1 ns1 j x2 ns2 e1 e2 e3 e4 e5
    simp only
    rw[dv (by simp only[M3]; omega),dv (by simp only[M3]; omega)]
    obtain⟨l',h1,h2⟩:=oY (op:=op) (y:=kids++[j]) (ns:=ns2) (by omega) e4
    have hlx:=au e2
    exact fp (rM hd0 (by omega) (by simp only[M6,M3]; omega) e3) e1 e2 h2 h1 e5
theorem Ai {p:UInt8→Bool} {c:UInt8} : ∀ {l:ae},c∈l.takeWhile p→p c=true
 | [],h=>by simp at h
 | x :: l,h=>by
  cases hx:p x with
  | true =>
   rw[List.takeWhile_cons_of_pos hx] at h
   rcases O9.1 h with rfl | h
   ·exact hx
   ·exact Ai h
  | false =>
   rw[X5 (by rw[hx]; decide)] at h
   cases h
theorem JA {w:ae} (hw : ∀ c∈w,aK c=true) (h:(bn w).2=true):(w≠[])↔((bn w).1.1=1∨(bn w).1.1=3):=by
 constructor
 ·intro hne
  obtain⟨k1,k2⟩:=oh h
  rcases pv k1 with e | ⟨n,e,_⟩ | ⟨t,e⟩ | ⟨b,e⟩ | ⟨n,e,h0⟩
  ·rw[e] at k2
   exact P1 (xE (b:=[]) k2.symm) hne
  ·rw[e]; exact .inl rfl
  ·rw[e] at k2
   exfalso
   have e2:w=39 :: lb t:=by
    have:ba w=ba (39 :: lb t):=by
     rw[←k2]
     show(⟨#[39]⟩:L9)++t=_
     rw[←gt t,show(⟨#[39]⟩:L9)=ba [39] from rfl,lM,cP]
     rfl
    exact xE this
   exact P1 (hw 39 (by rw[e2]; simp)) (by decide)
  ·rw[e]; exact .inr rfl
  ·rw[e] at k2
   exfalso
   have f : ∀ n:Fin 6,1≤n.val→cA (n.val:Int)=ba (35 :: jA (n.val:Int)):=by decide +kernel
   have e2:w=35 :: jA (n.val:Int):=by
    have:ba w=ba (35 :: jA (n.val:Int)):=by
     rw[←k2]
     exact f n h0
    exact xE this
   exact P1 (hw 35 (by rw[e2]; simp)) (by decide)
 ·rintro hk rfl
  have:(bn []).1.1=0:=rfl
  omega
theorem J0 {s:L9} {a:Int} {ns:List ab}:da 5 s a false ns=oF s a false ns:=by
 rw[tv]
 simp only[M8,O0,ec]
 rfl
abbrev JB (k:Int):ab:=(4,0,(0,0,(⟨#[]⟩:L9),()),((0,0,()),false,false,()),((0,0,()),false,false,()),([k]:(List Int)),())
theorem H8:N6 ⟨#[]⟩≤9223372036854775807:=by decide
theorem k7 {s m:ae} {L i j:Int} {l1 l2:ae} {b:Bool} {ns1 ns2:List ab} (hd:Dm b ns1) (h1:l1 <:+ m) (h2:ns1.length≤60) (h3:l2 <:+ s) (h4:ns2.length≤61+m.length):iM s m L (some ((i,()),((ba l1,ns1,b,()),()))) (some ((j,()),((ba s,bd s l2,true,ns2,()),()))) :=
 .inr ⟨i,l1,b,ns1,j,l2,ns2,rfl,hd,h1,h2,rfl,h3,h4⟩
theorem JC {s:ae} (hs:s.length≤200) {n:Nat} (HB:H7 s n) {m:ae} (hbm:bl m=m) (hms:m <:+ s) (hmn:m.length≤n) {deep:Int} {ns:List ab} (hd0:0≤deep) (hd:deep+(m.length:Int)≤200) (ho:cx ns=true) (hn:ns.length≤60) :
  iM s m 5 (eJ deep (m.takeWhile aK) (m.dropWhile aK) false ns) ((g9 (ba s) (bd s m) false ns).bind fun z10=>(dn z10.1.1 1 z10.2.1.1 z10.2.1.2.1 z10.2.1.2.2.1 z10.2.1.2.2.2.1)):=by
 have hml:=au hms
 have hwl:=gP aK m
 have hrm:m.dropWhile aK <:+ m:=ad_ _
 have hrs:=ac hrm hms
 have hrl:=au hrm
 rw[wh (by omega) hms]
 simp only[M0]
 obtain⟨l',hl',e⟩:=CX (w:=m.takeWhile aK) (s:=s) (ns:=ns) (by omega) (by omega) iL [] (m.dropWhile aK) rfl hrs
 have e:dn (ba (m.takeWhile aK)) 1 (ba s) (bd s (m.dropWhile aK)) false ns=_:=e
 rw[e]
 have hl's:l' <:+ m:=by
  rcases hl' with rfl | rfl
  ·exact hrm
  ·exact ac (al _) hrm
 have hlb:bl l'=bl (m.dropWhile aK):=by
  rcases hl' with rfl | rfl
  ·rfl
  ·exact cw _
 cases hf:iL.find? (fun k=>decide (dR k=m.takeWhile aK)) with
 | some k =>
  obtain⟨k',hk',hkw,hkm,hne⟩:=E3 (w:=m.takeWhile aK) (by rw[hf]; simp)
  rw[hf] at hk'
  cases hk'
  have hno : ∀ k∈iL,(bn (dR k)).2=false∧(bU (dR k)).2=false:=by decide +kernel
  obtain⟨v1,v2⟩:=hno k hkm
  rw[hkw] at v1 v2
  have hlt:=E4 (l:=m) (by rw[hbm]; exact hne)
  rw[hbm] at hlt
  have ei:eJ deep (m.takeWhile aK) (m.dropWhile aK) false ns=eG k deep (ba (m.dropWhile aK)) false ns:=by
   unfold eJ
   rw[M2 (by rw[v1]; simp),M2 (by rw[v2]; simp),hf]
  rw[ei,oK,M2 (by decide),show(⟨#[40]⟩:L9)=ba [40] from rfl,cL (by omega)]
  simp only[M0,iK (c:=40) (.inr (.inl rfl)),f7,M3]
  by_cases h40:(bl (m.dropWhile aK)).head? = some 40
  ·simp only[h40,Q6,Bool.and_true,hf,O4,O5]
   have hdl:=jm h40
   have hds:(bl (m.dropWhile aK)).drop 1 <:+ m:=ac (eq _) hrm
   have hb2:=au (al ((bl (m.dropWhile aK)).drop 1))
   rw[AE,Gw]
   exact(Jz hs HB _ _ _ rfl rfl (ac hds hms) (ac hds hms) (by omega) k deep [] ns hd0 (by omega) (by simp only[S4]; omega) ho hn).mono (ac (al _) hds)
  ·simp only[h40,S0,Bool.and_false,O0,O8]
   have e0:iL.find? (fun _=>false)=none:=rfl
   rw[e0]
   simp only
   have es:kY (m.takeWhile aK) s (bd s l') false ns=some ((0,()),((ba s,bd s l',true,ns,()),())):=by
    unfold kY
    rw[M2 (by rw[v1]; simp),M2 (by rw[v2]; simp)]
   rw[es,gn]
   simp only[O5,M8,O0,fj]
   exact fp (dg hn (xQ (by simp))) (xR ho) (ac (al _) hrm) rfl (ac hl's hms) (by omega)
 | none =>
  have e0:iL.find? (fun k=>decide (dR k=m.takeWhile aK) && ([40]:ae).isPrefixOf (bl (m.dropWhile aK)))=none:=by
   rw[List.find?_eq_none] at hf ⊢
   intro k hk
   have:=hf k hk
   simp only[M9] at this
   simp[this]
  rw[e0]
  simp only
  unfold kY eJ
  rw[hf]
  have hv:=fun h=>JA (w:=m.takeWhile aK) (fun c hc=>Ai hc) h
  by_cases hc:(bn (m.takeWhile aK)).2=true∧m.takeWhile aK≠[]
  ·rw[M5 hc,M5 ⟨hc.1,(hv hc.1).1 hc.2⟩,jB]
   exact kZ (E2 (Q3 (fg (oh hc.1).1) (by decide))) hlb.symm hrm hl's hms ho hn
  ·rw[M2 hc,M2 (fun h=>hc ⟨h.1,(hv h.1).2 h.2⟩)]
   by_cases hp:(bU (m.takeWhile aK)).2=true
   ·rw[M5 hp,M5 hp]
    exact kZ rfl hlb.symm hrm hl's hms ho hn
   ·rw[M2 hp,M2 hp]
    exact k7 (xR ho) hrm hn (ac hl's hms) (by omega)
theorem H9 {s:ae} (hs:s.length≤200) {n:Nat} (HB:H7 s n) : ∀(k:Nat) (l l0:ae),(bl l).length=k→bl l=bl l0→l <:+ s→l0 <:+ s→(bl l).length≤n → ∀(deep:Int) (ns:List ab),0≤deep→deep+((bl l).length:Int)≤200→cx ns=true→ns.length≤60 →
  iM s (bl l) 5 (ga deep (ba l) false ns) (oF (ba s) (bd s l0) false ns):=by
 intro k
 induction k using Nat.strongRecOn with
 | ind k ih =>
  intro l l0 hk hb hs1 hs2 hln deep ns hd0 hd ho hn
  subst hk
  have hl1:=au hs1
  have hm1:=au (al l)
  have hms:bl l <:+ s:=ac (al l) hs1
  rw[nS,aq (by omega),Ct,show(⟨#[45]⟩:L9)=ba [45] from rfl,show(⟨#[40]⟩:L9)=ba [40] from rfl,show(⟨#[34]⟩:L9)=ba [34] from rfl,show(⟨#[35]⟩:L9)=ba [35] from rfl,show(⟨#[41]⟩:L9)=ba [41] from rfl,cL (by omega),eI (by omega) (by decide) hs2]
  simp only[M0,M8,O0,fj,ec,iK (c:=45) (.inl rfl),M3,O8,P4,f7,←hb]
  by_cases h45:(bl l).head? = some 45
  ·simp only[h45,Q6,O4]
   have hlt:=jm h45
   have hX:(bl l).drop 1 <:+ bl l:=dB 1 _
   have hbX:=au (al ((bl l).drop 1))
   have hlX:((bl l).drop 1).length < (bl l).length:=by
    obtain⟨t,ht⟩:=fR h45
    rw[ht]
    simp
   rw[wr (by omega) (by omega),J0]
   refine k6 (ih _ (by omega) _ _ rfl rfl (ac hX hms) (ac hX hms) (by omega) (deep+1) ns (by omega) (by omega) ho hn) ?_ ?_
   ·intro i x1 x2 ns' e1 e2 e3 e4 e5 _
    exact kZ (x:=JB i) rfl e1 (ac e2 (ac (al _) hX)) (ac e3 (ac (al _) hX)) hms e4 e5
   ·intro i x1 b1 ns1 j x2 ns2 e1 e2 e3 e4 e5
    refine fp (dg e3) e1 (ac e2 (ac (al _) hX)) (C3 (x:=JB j) (ns:=ns2) (by omega) H8) e4 ?_
    show(ns2++[JB j]).length≤_
    rw[M6,M3]
    omega
  ·simp only[h45,S0,M8,O0]
   rw[CY (by omega),eI (by omega) (by decide) hms]
   simp only[M0,cw,O8,P4,f7,M3]
   by_cases h40:(bl l).head? = some 40
   ·have n34 : ¬(bl l).head? = some 34:=by rw[h40]; decide
    have n35 : ¬(bl l).head? = some 35:=by rw[h40]; decide
    simp only[h40,Q6,O4]
    rw[M2 (by decide),M2 (by decide)]
    have hX:(bl l).drop 1 <:+ bl l:=dB 1 _
    have hbX:=au (al ((bl l).drop 1))
    have hlX:((bl l).drop 1).length < (bl l).length:=by
     obtain⟨t,ht⟩:=fR h40
     rw[ht]
     simp
    rw[wr (by omega) (by omega)]
    refine k6 (HB _ _ rfl (ac hX hms) (ac hX hms) (by omega) 1 (deep+1) ns (by decide) (by decide) (by omega) (by omega) ho hn) ?_ ?_
    ·intro i x1 x2 ns' e1 e2 e3 e4 e5 _
     have hx1:x1 <:+ bl l:=ac e2 (ac (al _) hX)
     have hx2:x2 <:+ bl l:=ac e3 (ac (al _) hX)
     have hlx:=au hx1
     simp only[M8,O0]
     rw[cL (by omega),eI (by omega) (by decide) (ac hx2 hms)]
     simp only[M0,iK (c:=41) (.inr (.inr (.inl rfl))),M3,O8,P4,f7,←e1]
     by_cases h41:(bl x1).head? = some 41
     ·simp only[h41,Q6,O4,O5,M8,O0]
      have hd1:(bl x1).drop 1 <:+ bl l:=ac (eq x1) hx1
      exact .inl ⟨i,(bl x1).drop 1,(bl x1).drop 1,ns',rfl,rfl,rfl,hd1,hd1,e4,e5,.inr (Gv _)⟩
     ·simp only[h41,S0,O0,O8,M8,O4]
      have hd1:bl x1 <:+ bl l:=ac (al x1) hx1
      exact k7 (xR e4) hd1 e5 (ac hd1 hms) (by omega)
    ·intro i x1 b1 ns1 j x2 ns2 e1 e2 e3 e4 e5
     have hx1:x1 <:+ bl l:=ac e2 (ac (al _) hX)
     have hlx:=au hx1
     rw[eI (by omega) (by decide) e4]
     simp only[M0,O5,Bool.false_and,M8,O0,O8,O4]
     cases b1 with
     | true =>
      simp only[O4]
      exact k7 ⟨.inl rfl,e1.2⟩ hx1 e3 (ac (al x2) e4) (by omega)
     | false =>
      simp only[M8,O0]
      rw[cL (by omega)]
      simp only[M0]
      have hdm:cx ns1=false:=e1.1.elim (fun h=>by cases h) id
      refine k7 ⟨.inr hdm,e1.2⟩ ?_ e3 (ac (al x2) e4) (by omega)
      split
      ·exact ac (ac (dB _ _) (al _)) hx1
      ·exact ac (al _) hx1
   ·simp only[h40,S0,M8,O0]
    rw[eI (by omega) (by decide) hms]
    simp only[M0,cw,O8,P4,f7,M3]
    by_cases h34:(bl l).head? = some 34
    ·simp only[h34,Q6,O4]
     obtain⟨t,ht⟩:=fR h34
     have htl:t.length+1=(bl l).length:=by rw[ht]; simp
     have hts:t <:+ bl l:=⟨[34],by rw[ht]; rfl⟩
     rw[ht]
     simp only[Q1,S9]
     rw[xO (by omega),Jv (by omega) (ac hts hms)]
     cases hq:qt t with
     | none =>
      rw[←ht]
      exact k7 (xR ho) (jl _) hn ⟨s,by simp⟩ (by omega)
     | some p =>
      obtain⟨q1,q2,q3⟩:=HZ t p.1 p.2 hq
      show iM s _ 5 (bm _ _ false ns) (bz _ _ _ false ns)
      rw[jB,←ht]
      have hp:=ac q1 hts
      refine kZ (x:=nC (2,0,ba ([]++p.1),())) (E2 ?_) rfl hp hp hms ho hn
      show(ba ([]++p.1)).size≤_
      rw[aB]
      simp only[X3]
      omega
    ·simp only[h34,S0,M8,O0]
     rw[eI (by omega) (by decide) hms]
     simp only[M0,cw,O8,P4,f7,M3]
     by_cases h35:(bl l).head? = some 35
     ·simp only[h35,Q6,O4]
      obtain⟨t,ht⟩:=fR h35
      have htl:t.length+1=(bl l).length:=by rw[ht]; simp
      have hts:t <:+ bl l:=⟨[35],by rw[ht]; rfl⟩
      rw[ht]
      simp only[Q1,S9]
      have es:=Ad (s:=s) (l:=t) (b:=false) (ns:=ns) (by omega) (ac hts hms) qz [] rfl
      have es:eT 1 (ba s) (bd s t) false ns=_:=es
      rw[E5 (by omega),es]
      cases qz.find? (qA t) with
      | none =>
       simp only
       rw[←ht]
       exact k7 (xR ho) (jl _) hn (ac hts hms) (by omega)
      | some e =>
       simp only
       rw[jB,←ht]
       have hp:=ac (dB (jA e).length t) hts
       exact kZ (x:=nC (vE e)) (E2 (by show eS.size≤_; decide)) rfl hp hp hms ho hn
     ·simp only[h35,S0,M8,O0]
      exact JC hs HB (cw l) hms hln hd0 hd ho hn
noncomputable def tN:Nat→Int→(Int×Unit)×(gj×Unit)→RS
 | 0,_,z=>some ((z.1.1,()),(z.2.1,()))
 | c+1,L,z=>(cj (L+(c:Int)) z.1.1 z.2.1.1 z.2.1.2.1 z.2.1.2.2.1 z.2.1.2.2.2.1).bind (tN c L)
theorem yT {L a:Int} {s:L9} {i:Int} {ns:List ab}:cj L a s i true ns=some ((a,()),((s,i,true,ns,()),())):=by
 rw[oM]
 rfl
theorem uB : ∀(c:Nat) (L a:Int) (s:L9) (i:Int) (ns:List ab),tN c L ((a,()),((s,i,true,ns,()),()))=some ((a,()),((s,i,true,ns,()),()))
 | 0,_,_,_,_,_=>rfl
 | c+1,L,a,s,i,ns=>by
  show(cj _ a s i true ns).bind (tN c L)=_
  rw[yT]
  exact uB c L a s i ns
theorem C4 : ∀(c:Nat) (L:Int) (z:(Int×Unit)×(gj×Unit)),tN (c+1) L z=(tN c (L+1) z).bind fun z2=>cj L z2.1.1 z2.2.1.1 z2.2.1.2.1 z2.2.1.2.2.1 z2.2.1.2.2.2.1
 | 0,L,z=>by
  show(cj (L+((0:Nat):Int)) z.1.1 z.2.1.1 z.2.1.2.1 z.2.1.2.2.1 z.2.1.2.2.2.1).bind (fun z=>some ((z.1.1,()),(z.2.1,())))=cj L z.1.1 z.2.1.1 z.2.1.2.1 z.2.1.2.2.1 z.2.1.2.2.2.1
  rw[ec,show L+((0:Nat):Int)=L by omega]
 | c+1,L,z=>by
  show(cj (L+((c+1:Nat):Int)) z.1.1 z.2.1.1 z.2.1.2.1 z.2.1.2.2.1 z.2.1.2.2.2.1).bind (tN (c+1) L)=((cj (L+1+(c:Int)) z.1.1 z.2.1.1 z.2.1.2.1 z.2.1.2.2.1 z.2.1.2.2.2.1).bind (tN c (L+1))).bind _
  rw[show L+((c+1:Nat):Int)=L+1+(c:Int) by omega,Option.bind_assoc]
  congr 1
  funext y
  exact C4 c L y
theorem xS {s:L9} {a:Int} {ns:List ab} : ∀(c:Nat) (L:Int),L+(c:Int)=5→1≤L→da L s a false ns=(da 5 s a false ns).bind (tN c L)
 | 0,L,h,_=>by
  have:L=5:=by omega
  subst this
  exact ec.symm
 | c+1,L,h,h1=>by
  have hL : ¬(L == 5)=true:=by simp only[beq_iff_eq]; omega
  rw[tv,M2 (by decide),M2 hL,wr (by omega) (by omega),xS c (L+1) (by omega) (by omega),Option.bind_assoc]
  congr 1
  funext z
  exact(C4 c L z).symm
abbrev nB (op a b:Int):ab:=(5,op,(0,0,(⟨#[]⟩:L9),()),((0,0,()),false,false,()),((0,0,()),false,false,()),([a,b]:(List Int)),())
theorem JD {s m' l1 l2:ae} {L':Int} {x:ab} {ns:List ab} {K:(Int×Unit)×(kK×Unit)→RI} {K':(Int×Unit)×(gj×Unit)→RS} (hsx:oX x=true) (ho:cx ns=true) (hn:ns.length≤60)
  (hg:cx (ns++[x])=true→(ns++[x]).length≤60→iM s m' L' (K (((ns.length:Int),()),((ba l1,ns++[x],false,()),()))) (K' (((ns.length:Int),()),((ba s,bd s l2,false,ns++[x],()),()))))
  (hd : ∀(i:Int) (b1:Bool) (ns1:List ab),Dm b1 ns1→ns1.length≤60→iM s m' L' (K ((i,()),((ba l1,ns1,b1,()),()))) (K' (((ns.length:Int),()),((ba s,bd s l2,true,ns++[x],()),())))) :
  iM s m' L' ((aG x (ba l1) false ns).bind K) ((bz x (ba s) (bd s l2) false ns).bind K'):=by
 have hx:=C2 hsx
 obtain⟨i,e,hi⟩:=ux (x:=x) (l:=l1) (b:=false) hn
 rw[e,yO (by omega) hx]
 simp only[M0]
 by_cases hlt:ns.length < 60
 ·have hi:=hi rfl hlt
  subst hi
  have d60:decide (60≤ns.length)=false:=O7 (by omega)
  simp only[d60,hlt,and_self,O4,Y9]
  cases hk:dw x with
  | true =>
   refine hg ?_ ?_
   ·unfold cx at ho ⊢
    rw[W1,ho]
    simp[hk]
   ·rw[M6,M3]; omega
  | false =>
   refine hd _ false (ns++[x]) ⟨.inr ?_,E6 (rK ho) hsx⟩ ?_
   ·unfold cx
    rw[W1]
    simp[hk]
   ·rw[M6,M3]; omega
 ·have d60:decide (60≤ns.length)=true:=O6 (by omega)
  rw[d60,M2 (by omega)]
  simp only[Y9,Bool.true_or]
  exact hd i true ns (xR ho) hn
theorem JE {s:ae} (hs:s.length≤200) {n:Nat} (HB:H7 s n) : ∀(k c:Nat) (l1 l2 M:ae),(bl l1).length=k→bl l1=bl l2→l1 <:+ M→l2 <:+ M→M <:+ s→(bl l1).length≤n → ∀(L left deep:Int) (ns:List ab),1≤L→L+(c:Int)≤5→0≤deep→deep+((bl l1).length:Int)≤200→cx ns=true→ns.length≤60→(dC (bl l1)=0∨cr (dC (bl l1)) < L+(c:Int)) →
  iM s M L (dj L deep left (ba l1) false ns) (tN c L ((left,()),((ba s,bd s l2,false,ns,()),()))):=by
 intro k
 induction k using Nat.strongRecOn with
 | ind k ih =>
  intro c
  induction c with
  | zero =>
   intro l1 l2 M hk hb hs1 hs2 hMs hln L left deep ns hL0 hL1 hd0 hd ho hn hpost
   have hl1:=au (ac hs1 hMs)
   have hbl:=au (al l1)
   obtain⟨o1,o2⟩:=lO (bl l1)
   rw[f5]
   simp only[O8,O4]
   rw[wg (by omega),yS o1 o2 (by omega) (fun h=>by rw[cw]; exact rE h),M5 (by omega)]
   refine .inl ⟨left,bl l1,l2,ns,rfl,rfl,by rw[cw,hb],ac (al l1) hs1,hs2,ho,hn,?_⟩
   rw[cw]
   omega
  | succ c ihc =>
   intro l1 l2 M hk hb hs1 hs2 hMs hln L left deep ns hL0 hL1 hd0 hd ho hn hpost
   have hl1:=au (ac hs1 hMs)
   have hbl:=au (al l1)
   have hs2s:=ac hs2 hMs
   obtain⟨o1,o2⟩:=lO (bl l1)
   obtain⟨l',hl',eop⟩:=Ll (s:=s) (l:=l2) (ns:=ns) (L:=L+(c:Int)) (by omega) (by omega) hs2s
   have hCh:tN (c+1) L ((left,()),((ba s,bd s l2,false,ns,()),()))=(cj (L+(c:Int)) left (ba s) (bd s l2) false ns).bind (tN c L):=rfl
   rw[hCh,oM]
   simp only[O8,O4]
   rw[eop,←hb]
   by_cases hop:dC (bl l1)≠0∧cr (dC (bl l1))=L+(c:Int)
   ·rw[M5 hop]
    have h0 : ¬(dC (bl l1) == 0)=true:=by simpa using hop.1
    unfold rI
    simp only[M0]
    rw[M2 h0,←hb,wr (by omega) (by omega)]
    have hlt:=C1 hop.1
    have hX:(bl l1).drop (cY (dC (bl l1))).length <:+ M:=ac (dB _ _) (ac (al l1) hs1)
    have hXM:=au hX
    have hXl:((bl l1).drop (cY (dC (bl l1))).length).length < (bl l1).length:=by
     have:=C1 (l:=bl l1) (by rw[cw]; exact hop.1)
     rw[cw] at this
     exact this
    have hbX:=au (al ((bl l1).drop (cY (dC (bl l1))).length))
    rw[f5]
    simp only[O8,O4]
    rw[wg (by omega),yS o1 o2 (by omega) (fun h=>by rw[cw]; exact rE h),M2 (by omega),cw,hop.2,Option.bind_assoc]
    have hMl:(bl l1).length≤M.length:=au (ac (al l1) hs1)
    refine k6 (HB _ _ rfl (ac hX hMs) (ac hX hMs) (by omega) (L+(c:Int)+1) deep ns (by omega) (by omega) hd0 (by omega) ho hn) ?_ ?_
    ·intro i x1 x2 ns' e1 e2 e3 e4 e5 e6
     have hx1:x1 <:+ M:=ac e2 (ac (al _) hX)
     have hx2:x2 <:+ M:=ac e3 (ac (al _) hX)
     have hxl:=au e2
     have hbx:=au (al x1)
     have hxM:=au hx1
     have hMsl:=au hMs
     simp only
     rw[Option.bind_assoc]
     refine JD (x:=nB (dC (bl l1)) left i) rfl e4 e5 ?_ ?_
     ·intro a1 a2
      exact ih _ (by omega) (c+1) x1 x2 M rfl e1 hx1 hx2 hMs (by omega) L _ deep _ hL0 hL1 hd0 (by omega) a1 a2 (by omega)
     ·intro i2 b1 ns1 a1 a2
      simp only
      rw[yT]
      simp only[M0]
      rw[uB]
      refine fp (rJ _ x1 rfl (fun l' _ deep least b ns d0 d1 hn=>uz l' deep least b ns d0 d1 hn) L deep i2 b1 ns1 hd0 (by omega) a2) a1 hx1 rfl (ac hx2 hMs) ?_
      rw[M6,M3]
      omega
    ·intro i x1 b1 ns1 j x2 ns2 e1 e2 e3 e4 e5
     have hx1:x1 <:+ M:=ac e2 (ac (al _) hX)
     have hxM:=au hx1
     have hMsl:=au hMs
     simp only
     rw[C3 (x:=nB (dC (bl l1)) left j) (ns:=ns2) (by omega) H8]
     simp only[M0]
     rw[yT]
     simp only[M0]
     rw[uB]
     obtain⟨i3,l3,b3,ns3,h3,j1,j2,j3⟩:=(dg (x:=nB (dC (bl l1)) left i) (l:=x1) (b:=b1) e3).dm e1
     rw[h3]
     simp only[M0]
     have hs3:=au j1
     refine fp (rJ _ l3 rfl (fun l' _ deep least b ns d0 d1 hn=>uz l' deep least b ns d0 d1 hn) L deep i3 b3 ns3 hd0 (by omega) j3) j2 (ac j1 hx1) rfl e4 ?_
     rw[M6,M3]
     omega
   ·rw[M2 hop]
    unfold rI
    simp only[M0]
    rw[M5 (by rfl)]
    simp only[M0]
    have hb':bl l1=bl l':=by
     rcases hl' with rfl | rfl
     ·exact hb
     ·rw[cw,hb]
    have hs':l' <:+ M:=by
     rcases hl' with rfl | rfl
     ·exact hs2
     ·exact ac (al l2) hs2
    exact ihc l1 l' M hk hb' hs1 hs' hMs hln L left deep ns hL0 (by omega) hd0 hd ho hn (by omega)
theorem Ia {s:ae} (hs:s.length≤200) : ∀ n,H7 s n
 | 0=>fun l l0 _ _ _ h=>by omega
 | n+1=>by
  have HB:=Ia hs n
  intro l l0 hb hs1 hs2 hln L deep ns hL0 hL1 hd0 hd ho hn
  have hms:bl l <:+ s:=ac (al l) hs1
  have hm:=au hms
  rw[mj,xS (5 - L).toNat L (by omega) hL0,J0]
  refine k6 (H9 hs HB _ l l0 rfl hb hs1 hs2 (by omega) deep ns hd0 hd ho hn) ?_ ?_
  ·intro i x1 x2 ns' e1 e2 e3 e4 e5 _
   have hbx:=au (al x1)
   have hx:=au e2
   exact JE hs HB _ (5 - L).toNat x1 x2 (bl l) rfl e1 e2 e3 hms (by omega) L i deep ns' hL0 (by omega) hd0 (by omega) e4 e5 (.inr (by have:=Gv (dC (bl x1)); omega))
  ·intro i x1 b1 ns1 j x2 ns2 e1 e2 e3 e4 e5
   have hx:=au e2
   rw[uB]
   exact fp (rJ _ x1 rfl (fun l' _ deep least b ns d0 d1 hn=>uz l' deep least b ns d0 d1 hn) L deep i b1 ns1 hd0 (by omega) e3) e1 e2 rfl e4 e5
theorem Gx {ns:List ab} (h:sm ns=true) : ∀ x∈ns,x.2.2.1.2.2.1.size≤9223372036854775807:=by
 unfold sm at h
 rw[T1] at h
 exact fun x hx=>C2 (h x hx)
theorem Gy {ns:List ab} (h:sm ns=true) : ∀ x∈ns,x.2.2.2.2.2.1.length≤10000000:=by
 unfold sm at h
 rw[T1] at h
 intro x hx
 have:=h x hx
 unfold oX at this
 rw[M7,M9,M9] at this
 omega
theorem Lm (s:ae):bd s s=0:=by
 unfold bd
 omega
theorem LN {x:L9} (hx:x.size≤9223372036854775807) : ∃(f:List ab) (b:Bool),nE x=some ((f,b,()),())∧nK x=some ((f,b,()),())∧(b=true→mn f=true)∧(b=false→f=[]):=by
 obtain⟨s,rfl⟩ : ∃ s,x=ba s:=⟨lb x,(gt x).symm⟩
 rw[xe,xn,pm hx,rz hx]
 simp only[M0]
 cases hp:(plain (ba s) && decide (((ba s).size:Int)≤200)) with
 | false=>exact⟨[],false,rfl,rfl,(fun h=>by cases h),fun _=>rfl⟩
 | true =>
  rw[M7,M9,aB] at hp
  have hs:s.length≤200:=by omega
  have hbl:=au (al s)
  have h:=Ia hs (s.length+1) s s rfl (jl s) (jl s) (by omega) 1 0 [] (by decide) (by decide) (by decide) (by omega) rfl (by simp)
  rw[Lm] at h
  simp only[O5,M8,O0]
  rcases h with⟨i,l1,l2,ns,e1,e2,h1,h2,h3,h4,h5,h6⟩ | ⟨i,l1,b1,ns1,j,l2,ns2,e1,h1,h2,h3,e2,h4,h5⟩
  ·rw[e1,e2]
   simp only[M0]
   rw[CO (by omega) (ac h3 (al s)),kk]
   simp only[M0,M8,O0]
   have e0:(M1 (ba (bl l1)) == M1 (⟨#[]⟩:L9))=decide (bl l1=[]):=cI (b:=[])
   rw[e0,←h1,aB,ma (by omega) (Gx (rK h4)) (Gy (rK h4)),sc (by omega) (Gx (rK h4)) (Gy (rK h4))]
   simp only[M0]
   by_cases hr:bl l1=[]
   ·rw[aq (by rw[hr]; unfold bd; simp),hr]
    simp only[Q6,O5,M8,O0]
    cases hk:mn ns with
    | true=>exact⟨ns,true,rfl,rfl,fun _=>hk,fun h=>by cases h⟩
    | false=>exact⟨[],false,rfl,rfl,(fun h=>by cases h),fun _=>rfl⟩
   ·have hlen:=Y3.2 hr
    have hls:=au (ac (ac (al l1) h2) (al s))
    rw[av (by unfold bd; omega)]
    simp only[hr,S0,O8,O4]
    exact⟨[],false,rfl,rfl,(fun h=>by cases h),fun _=>rfl⟩
  ·rw[e1,e2]
   simp only[M0]
   rw[CO (by omega) h4,kk]
   simp only[M0,O4]
   refine⟨[],false,rfl,?_,(fun h=>by cases h),fun _=>rfl⟩
   cases b1 with
   | true=>rfl
   | false =>
    have hbad:cx ns1=false:=h1.1.elim (fun h=>by cases h) id
    simp only[M8,O0]
    split
    ·rfl
    ·rw[ma (by omega) (Gx h1.2) (Gy h1.2)]
     simp only[M0]
     cases hk:mn ns1 with
     | false=>rfl
     | true =>
      exfalso
      have:cx ns1=true:=by
       unfold cx
       rw[T1]
       intro y hy
       obtain⟨i,hi⟩:=List.getElem?_of_mem hy
       exact(rD hk i y hi).1
      rw[this] at hbad
      cases hbad
end Go.Proofs.YtfffplonjaigkaaGreatDoor.Abs
