/- Plain laws: what is entered at a place: both sides; loops that look for an element and that take some out. -/
import Derived.Test.YteaahciglahehaaGreatDoorZM9
import Derived.Test.YteaahciglahehaaGreatDoorZM8
import Derived.Test.YteaahciglahehaaGreatDoorZM5
set_option linter.unusedVariables false
set_option linter.unusedSimpArgs false
set_option linter.unusedSectionVars false
namespace Go.Proofs.YteaahciglahehaaGreatDoor.Abs
open Go
section
variable {α R:Type}
def mH (p:α→Bool):List α→Nat→Int
 | [],_ => -1
 | c :: l,n=>if p c=true then(n:Int) else mH p l (n+1)
theorem wG {p:α→Bool} {s:List α} {d:α} {P:Int→Option R} {F:Int→Option R} (hl:s.length≤1000000000000)
  (hP : ∀ j,P j=if decide (j < (s.length:Int))=true then ix s j d fun y=>if p y=true then F j else P (IntKind.i64.wrap (j+1)) else F (-1)) : ∀(ys pre:List α),s=pre++ys→P (pre.length:Int)=F (mH p ys pre.length)
 | [],pre,h=>by
  rw[hP,aA (bj h)]
  rfl
 | y :: ys,pre,h=>by
  have ih:=wG hl hP ys (pre++[y]) (az h)
  rw[hP,aB (bu h),br h,aJ h (by omega),ih,List.length_append,List.length_singleton]
  show _=F (if p y=true then(pre.length:Int) else mH p ys (pre.length+1))
  by_cases hp:p y=true
  ·rw[if_pos hp,if_pos hp]
  ·rw[if_neg hp,if_neg hp]
theorem Ry {p:α→Bool} : ∀ {l:List α} {n:Nat},mH p l n = -1 → ∀ c∈l,p c=false
 | [],_,_,c,h=>by cases h
 | x :: l,n,e,c,h=>by
  unfold mH at e
  by_cases hx:p x=true
  ·rw[if_pos hx] at e
   omega
  ·rw[if_neg hx] at e
   rcases List.mem_cons.1 h with rfl | h
   ·simpa using hx
   ·exact Ry e c h
theorem Rz {p:α→Bool} : ∀ {l:List α} {n:Nat},mH p l n ≠ -1 → ∃ pre x ys,l=pre++x :: ys∧p x=true∧(∀ c∈pre,p c=false)∧mH p l n=((n+pre.length:Nat):Int)
 | [],_,e=>absurd rfl e
 | x :: l,n,e=>by
  unfold mH at e ⊢
  by_cases hx:p x=true
  ·rw[if_pos hx]
   exact⟨[],x,l,rfl,hx,(fun c h=>by cases h),rfl⟩
  ·rw[if_neg hx] at e ⊢
   obtain⟨pre,z,ys,h1,h2,h3,h4⟩:=Rz e
   refine⟨x :: pre,z,ys,by rw[h1]; rfl,h2,?_,?_⟩
   ·intro c hc
    rcases List.mem_cons.1 hc with rfl | hc
    ·simpa using hx
    ·exact h3 c hc
   ·rw[h4,List.length_cons]
    congr 1
    omega
theorem Gi {p:α→Bool} {d:α} {P:Int→Int→List α→Option R} {F:List α→Option R}
  (hP : ∀ i j xs,P i j xs=if decide (j < (xs.length:Int))=true then inb xs j (if(!p (List.getD xs (Int.toNat j) d))=true then inb xs i (P (IntKind.i64.wrap (i+1)) (IntKind.i64.wrap (j+1)) (List.set xs (Int.toNat i) (List.getD xs (Int.toNat j) d))) else P i (IntKind.i64.wrap (j+1)) xs)
   else(if(0:Int)≤i then(if i < (xs.length:Int) then QM (List.take (Int.toNat i) xs++List.replicate (xs.length - Int.toNat i) d) i F else none) else none)) :
  ∀(ys kept junk:List α),kept.length+junk.length+ys.length≤1000000000000→junk≠[]→P (kept.length:Int) ((kept.length+junk.length:Nat):Int) (kept++junk++ys)=F (kept++ys.filter fun c => !p c)
 | [],kept,junk,hl,hj=>by
  have hjl:=List.length_pos_iff.2 hj
  rw[hP,aA (by simp only[List.length_append,List.length_nil]; omega),if_pos (by omega),if_pos (by simp only[List.length_append,List.length_nil]; omega)]
  simp only[List.append_nil,Int.toNat_natCast,List.filter_nil]
  rw[Na (by omega) (by simp only[List.length_append,List.length_take,List.length_replicate]; omega)]
  simp
 | y :: ys,kept,junk,hl,hj=>by
  have hjl:=List.length_pos_iff.2 hj
  rw[List.length_cons] at hl
  have e1:kept++junk++y :: ys=(kept++junk)++y :: ys:=rfl
  have hlen:((kept++junk).length:Int)=((kept.length+junk.length:Nat):Int):=by simp
  have hg:List.getD (kept++junk++y :: ys) (Int.toNat ((kept.length+junk.length:Nat):Int)) d=y:=by
   rw[←hlen]
   exact gC
  rw[hP,aB (by rw[List.length_append,List.length_append,List.length_cons]; omega),bC (by omega) (by rw[List.length_append,List.length_append,List.length_cons]; omega),hg]
  by_cases hp:p y=true
  ·rw[hp,if_neg (by decide),wr (by omega) (by omega)]
   have ih:=Gi hP ys kept (junk++[y]) (by simp only[List.length_append,List.length_singleton]; omega) (by simp)
   have e2:kept++(junk++[y])++ys=kept++junk++y :: ys:=by simp
   have e3:((kept.length+(junk++[y]).length:Nat):Int)=((kept.length+junk.length:Nat):Int)+1:=by simp; omega
   rw[e2,e3] at ih
   rw[ih,List.filter_cons_of_neg (by simp[hp])]
  ·have hp':p y=false:=by simpa using hp
   rw[hp',if_pos (show(!false)=true from rfl),bC (by omega) (by rw[List.length_append,List.length_append,List.length_cons]; omega),wr (by omega) (by omega),wr (by omega) (by omega)]
   obtain⟨z,zs,rfl⟩ : ∃ z zs,junk=z :: zs:=by
    cases junk with
    | nil=>exact absurd rfl hj
    | cons z zs=>exact⟨z,zs,rfl⟩
   have ih:=Gi hP ys (kept++[y]) (zs++[y]) (by simp only[List.length_append,List.length_nil,List.length_cons] at hl ⊢; omega) (by simp)
   have e2:List.set (kept++z :: zs++y :: ys) (Int.toNat (kept.length:Int)) y=kept++[y]++(zs++[y])++ys:=by simp
   have e3:(((kept++[y]).length+(zs++[y]).length:Nat):Int)=((kept.length+(z :: zs).length:Nat):Int)+1:=by simp; omega
   have e4:((kept++[y]).length:Int)=(kept.length:Int)+1:=by simp
   rw[e3,e4] at ih
   rw[e2,ih,List.filter_cons_of_pos (by simp[hp'])]
   simp
end
theorem yL {s:List ae} (hl:s.length≤1000000000):fu s=some ((s,()),()):=by
 rw[Bl]
 unfold dd
 simp only[i8?,dite_true,Option.bind_some]
 exact if_pos (by omega)
theorem Y0 {s:List ae} {r:ao} (hl:s.length≤1000000000) : ∀(ys pre:List ae),s=pre++ys→ce s (s.length:Int) (pre.length:Int) r=some ((mH (fun c=>bp ap c.1 r) ys pre.length,()),(r,())) :=
 wG (p:=fun c:ae=>bp ap c.1 r) (d:=aj.dflt) (F:=fun j=>some ((j,()),(r,()))) (s:=s) (P:=fun j=>ce s (s.length:Int) j r) (by omega) fun j=>by
  rw[k7]
  simp only[zV,Option.bind_some]
theorem XH {s:List ae} {r:ao} (hl:s.length≤1000000000):eL s r.1 r.2.1=some ((mH (fun c=>bp ap c.1 r) s 0,()),(r,())):=by
 rw[nj,lz]
 cases s with
 | nil=>rfl
 | cons c l =>
  have h2:=Y0 (r:=r) hl l [c] rfl
  rw[aB (by rw[List.length_cons]; omega)]
  have hix : ∀ {β:Type} {F:ae→Option β},ix (c :: l) 0 aj.dflt F=F c:=fun {β F}=>br (pre:=[]) (ys:=l) rfl
  rw[hix,LJ,Option.bind_some]
  show(if bp ap c.1 r=true then _ else _)=_
  unfold mH
  by_cases h:bp ap c.1 r=true
  ·rw[if_pos h,if_pos h]
   rfl
  ·rw[if_neg h,if_neg h]
   exact h2
theorem Z2 (r:ao):(fun c:ae => !bp ap c.1 r)=fun c => !decide (c.1=r):=by
 funext c
 congr 1
 rw[Bool.eq_iff_iff,decide_eq_true_eq,mG]
theorem XI {s:List ae} {r:ao} (hl:s.length≤1000000000):dZ s r.1 r.2.1=some ((ja r s,()),(r,())):=by
 rw[lw,XH hl,Option.bind_some]
 dsimp only
 by_cases h:mH (fun c:ae=>bp ap c.1 r) s 0 = -1
 ·rw[h,if_pos (by rfl)]
  have:=Ry h
  rw[Z1 fun c hc=>by
   have:=this c hc
   intro e
   rw[mG.mpr e] at this
   cases this]
 ·obtain⟨pre,x,ys,h1,h2,h3,h4⟩:=Rz h
  rw[if_neg (by simpa using h),h4,Nat.zero_add]
  have hlen:pre.length+1+ys.length≤1000000000:=by rw[h1] at hl; simp at hl; omega
  have hd:=Gi (p:=fun c:ae=>bp ap c.1 r) (d:=aj.dflt) (P:=fun i j xs=>bZ i j xs r) (F:=fun l=>some ((l,()),(r,()))) (fun i j xs=>by
   rw[km]
   simp only[zV,Option.bind_some]) ys pre [x] (by simp only[List.length_singleton]; omega) (by simp)
  rw[wr (by omega) (by omega)]
  have e1:pre++[x]++ys=s:=by rw[h1]; simp
  have e2:((pre.length+[x].length:Nat):Int)=(pre.length:Int)+1:=by simp
  rw[e1,e2] at hd
  refine hd.trans ?_
  have e3:ja r s=pre++ys.filter fun c => !bp ap c.1 r:=by
   rw[Z2 r]
   unfold ja
   rw[h1,List.filter_append,List.filter_cons_of_neg (by simp[mG.mp h2])]
   congr 1
   rw[List.filter_eq_self]
   intro c hc
   have:=h3 c hc
   simp only[Bool.not_eq_true',decide_eq_false_iff_not]
   intro e
   rw[mG.mpr e] at this
   cases this
  rw[e3]
def Z3 (a b:ae):Bool:=ck a.1 b.1
theorem XJ:Sort.SWO (α:=ao) ck where
 irrefl:=wE
 trans _ _ _ h k:=lq h k
 ntrans x y z h k:=by
  rw[Bool.eq_false_iff] at h k ⊢
  intro hz
  rcases yJ x y with e | e | e
  ·exact h e
  ·subst e
   exact k hz
  ·exact k (lq e hz)
theorem Z4:Sort.SWO (α:=aj.den) Z3 where
 irrefl x:=XJ.irrefl x.1
 trans x y z h k:=XJ.trans x.1 y.1 z.1 h k
 ntrans x y z h k:=XJ.ntrans x.1 y.1 z.1 h k
theorem VX {s:List ae} (hl:s.length≤1000000000):eA s=some ((),(eP (α:=aj.den) Z3 s,())):=by
 rw[mC]
 unfold l4
 simp only[i8?,dite_true,Option.bind_some,if_true]
 exact if_pos (by omega)
theorem TN {r:ao} {x:ByteArray} {s:List ae} (h:jO s):eP (α:=aj.den) Z3 (ja r s++[(r,x,())])=tW r x s :=
 EM ((EL Z4 _).trans (Gh s).symm) (Lm Z4 _) (Jq h)
theorem Qk {s:List ae} {r:ao} {x:ByteArray} (h:jO s) (hl:s.length≤1000000):FT s r x=some ((pl s r x,()),()):=by
 have hd:=YX r s
 rw[P5,yL (by omega),Option.bind_some]
 dsimp only
 rw[XI (by omega),Option.bind_some]
 dsimp only
 unfold pl
 by_cases hx:x=eS
 ·subst hx
  rw[if_pos rfl,if_neg (by simp[s4])]
 ·rw[if_neg hx,show(ByteArray.toList x == ByteArray.toList (⟨#[]⟩:ByteArray))=decide (x=eS) from s4,decide_eq_false hx,if_pos (by rfl),bd (by simp only[List.length_singleton]; omega),VX (by simp only[List.length_append,List.length_singleton]; omega),Option.bind_some]
  dsimp only
  rw[TN h]
section
variable {s:List ae} {r:ao} {x:ByteArray} (hl:s.length≤1000000)
include hl
theorem oy : ∀(ys pre acc:List ae),s=pre++ys→acc.length+ys.length≤1000010→ii s x true (pre.length:Int) r.1 r.2.1 acc=some ((acc++ja r ys,()),())
 | [],pre,acc,h,ha=>by
  rw[q6,aA (bj h)]
  simp[ja]
 | y :: ys,pre,acc,h,ha=>by
  rw[List.length_cons] at ha
  rw[q6,aB (bu h)]
  simp only[Bool.not_true,Bool.false_eq_true,if_false,br h]
  show(if(!bp ap y.1 r)=true then _ else _)=_
  by_cases e:y.1=r
  ·rw[mG.mpr e,if_neg (by decide),aJ h (by omega),oy ys _ acc (az h) (by omega),Ff e]
  ·have e':bp ap y.1 r=false:=by rw[Bool.eq_false_iff,ne_eq,mG]; exact e
   rw[e',if_pos (by rfl),bd (by simp only[List.length_singleton]; omega),aJ h (by omega),oy ys _ _ (az h) (by simp only[List.length_append,List.length_singleton]; omega),yK e]
   simp
theorem DG : ∀(ys pre acc:List ae),s=pre++ys→acc.length+ys.length≤1000000→ii s x false (pre.length:Int) r.1 r.2.1 acc=some ((acc++tW r x ys,()),())
 | [],pre,acc,h,ha=>by
  rw[q6,aA (bj h),if_pos (by rfl),bd (by simp only[List.length_singleton,List.length_nil] at ha ⊢; omega)]
  rfl
 | y :: ys,pre,acc,h,ha=>by
  rw[List.length_cons] at ha
  rw[q6,aB (bu h),if_pos (by rfl)]
  simp only[br h,Fe,Option.bind_some]
  show(if(!ck y.1 r)=true then _ else _)=_
  unfold tW
  cases k:ck y.1 r with
  | true =>
   have e:=wF k
   have e':bp ap y.1 r=false:=by rw[Bool.eq_false_iff,ne_eq,mG]; exact e
   rw[if_neg (by decide),if_pos rfl]
   show(if(!bp ap y.1 r)=true then _ else _)=_
   rw[e',if_pos (by rfl),bd (by simp only[List.length_singleton]; omega),aJ h (by omega),DG ys _ _ (az h) (by simp only[List.length_append,List.length_singleton]; omega)]
   simp
  | false =>
   rw[if_pos (by decide),if_neg (by decide),bd (by simp only[List.length_singleton]; omega)]
   show(if(!bp ap y.1 r)=true then _ else _)=_
   by_cases e:y.1=r
   ·rw[mG.mpr e,if_neg (by decide),aJ h (by omega),oy hl ys _ _ (az h) (by simp only[List.length_append,List.length_singleton]; omega),Ff e]
    simp
   ·have e':bp ap y.1 r=false:=by rw[Bool.eq_false_iff,ne_eq,mG]; exact e
    rw[e',if_pos (by rfl),bd (by simp only[List.length_append,List.length_singleton]; omega),aJ h (by omega),oy hl ys _ _ (az h) (by simp only[List.length_append,List.length_singleton]; omega),yK e]
    simp
theorem VY:MY s r x=some ((pl s r x,()),()):=by
 rw[U1]
 unfold pl
 by_cases hx:x=eS
 ·subst hx
  rw[if_pos rfl,show(ByteArray.toList eS == ByteArray.toList (⟨#[]⟩:ByteArray))=decide (eS=eS) from s4,decide_eq_true rfl]
  exact oy hl s [] [] rfl (by simp only[List.length_nil]; omega)
 ·rw[if_neg hx]
  have:(ByteArray.toList x == ByteArray.toList (⟨#[]⟩:ByteArray))=false:=by
   rw[show(ByteArray.toList x == ByteArray.toList (⟨#[]⟩:ByteArray))=decide (x=eS) from s4,decide_eq_false hx]
  rw[this]
  exact DG hl s [] [] rfl (by simp only[List.length_nil]; omega)
end
theorem Y1:hZ eS=(eS,true):=by
 have h:=(wC (x:=eS) (by decide)).2.1
 rw[yy,om (by decide)] at h
 have hp:(plain eS && decide ((eS.size:Int)≤200))=true:=by decide +kernel
 have he:(ByteArray.toList eS == ByteArray.toList (⟨#[]⟩:ByteArray))=decide (eS=eS):=s4
 rw[hp,he,decide_eq_true rfl] at h
 simp only[Option.bind_some,Bool.not_true,Bool.false_eq_true,if_false,if_true,Option.some.injEq,Prod.mk.injEq,and_true] at h
 exact Prod.ext h.1.symm h.2.symm
theorem XK (x:ByteArray):((hZ x).2 && decide ((hZ x).1=x))=OQ x:=by
 unfold OQ
 by_cases h:x=eS
 ·subst h
  rw[Y1]
  simp
 ·rw[decide_eq_false h,Bool.false_or]
  unfold fL
  rw[decide_eq_false h]
  simp
theorem eqD {a b:ByteArray}:(ByteArray.toList a == ByteArray.toList b)=decide (a=b):=s4
theorem eqE {a:ByteArray}:(ByteArray.toList a == ByteArray.toList (⟨#[]⟩:ByteArray))=decide (a=eS):=s4
section
end
section
end
section
variable {c:List Int} (hc:ZX c)
include hc
end
def SmS (s:List ae):Prop:=s.length≤121 ∧ ∀ c∈s,c.2.1.size≤6401
theorem SmS.sz {s:List ae} (h:SmS s) : ∀ c∈s,c.2.1.size≤9223372036854775807:=fun c hc=>Nat.le_trans (h.2 c hc) (by decide)
section
variable {c:List Int} (hc:ZX c)
include hc
end
section
variable {s a:List ae} (hs:bz s=true) (ha:bz a=true)
include hs ha
end
section
variable {s:List ae} {a:ag} (hs : ∀ c∈s,c.2.1.size≤9223372036854775807) (hl:s.length≤1000000)
include hs hl
end
theorem Yk {x:ByteArray} (hx:x.size≤9223372036854775807):uE x=some (((cR x).getD [],(cR x).isSome,()),()):=by
 have hl:(lb x).length≤9223372036854775807:=by rw[jk]; exact hx
 have hc:cq x (⟨#[61]⟩:ByteArray)=some ((ba (if [61].isPrefixOf (lb x)=true then(lb x).drop 1 else lb x),[61].isPrefixOf (lb x),()),()):=by
  have:=tE (lb x) [61] hl
  rwa[d9] at this
 have hsz:(ba ((lb x).drop 1)).size≤9223372036854775807:=by
  rw[aQ,List.length_drop]
  omega
 have hp:List.isPrefixOf [61] (lb x)=decide ((lb x).head? = some 61):=by
  cases lb x with
  | nil=>rfl
  | cons b l =>
   by_cases h:b=61
   ·subst h
    rfl
   ·simp[List.isPrefixOf,h,Ne.symm h]
 rw[LH,hc,hp]
 simp only[Option.bind_some]
 unfold cR
 by_cases hb:(lb x).head? = some 61
 ·simp only[hb,decide_true,Bool.not_true,Bool.false_eq_true,if_false,if_true,true_and]
  rw[(tG hsz).2.1]
  simp only[Option.bind_some]
  cases hr:(iX (ba ((lb x).drop 1))).2 with
  | true=>rfl
  | false =>
   rw[(tG hsz).2.2.2 hr]
   rfl
 ·simp only[hb,decide_false,Bool.not_false,if_true,false_and,if_false]
  rfl
theorem Yl {x:ByteArray} (hx:x.size≤9223372036854775807):qy x=some (((cR x).getD [],(cR x).isSome,()),()):=by
 rw[Lx]
 unfold cR
 cases hl':lb x with
 | nil =>
  have he:x=ba []:=by rw[←d9 x,hl']
  have h2:(ByteArray.toList x == ByteArray.toList (⟨#[]⟩:ByteArray))=true:=by
   rw[he]
   have:(⟨#[]⟩:ByteArray)=ba []:=rfl
   rw[this,dF]
   simp
  rw[if_pos h2,if_neg (by simp)]
  rfl
 | cons b l =>
  have hx':x=ba (b :: l):=by rw[←hl',d9]
  subst hx'
  have hsz:(ba l).size≤9223372036854775807:=by
   rw[aQ] at hx ⊢
   simp only[List.length_cons] at hx
   omega
  have he:(ByteArray.toList (ba (b :: l)) == ByteArray.toList (⟨#[]⟩:ByteArray))=false:=by
   have:(⟨#[]⟩:ByteArray)=ba []:=rfl
   rw[this,dF]
   simp
  rw[he,re]
  simp only[Bool.false_eq_true,if_false]
  by_cases hb:b=61
  ·subst hb
   rw[if_neg (by decide)]
   have hsl : ∀(k:ByteArray→Option ((List aa×(Bool×Unit))×Unit)),jn (ba (61 :: l)) 1 k=k (ba l):=fun k=>by
    have:=fR (l:=61 :: l) (n:=1) (f:=k) (by simp)
    exact this
   rw[hsl,(tG hsz).1]
   simp only[Option.bind_some,List.head?_cons,true_and,List.drop_succ_cons,List.drop_zero]
   cases hr:(iX (ba l)).2 with
   | true=>rfl
   | false =>
    rw[(tG hsz).2.2.2 hr]
    rfl
  ·have hb':((b.toNat:Int) != 61)=true:=by
    rw[bne_iff_ne]
    intro h
    apply hb
    apply UInt8.toNat_inj.1
    have:((61:UInt8).toNat)=61:=rfl
    omega
   rw[if_pos hb']
   simp only[List.head?_cons,Option.some.injEq,hb,false_and,if_false]
   rfl
section
variable {f:List aa} (hf:fF f=true)
include hf
end
section
variable {x:ByteArray} (hx:x.size≤9223372036854775807)
include hx
end
def aX (s:List ae) (i:Nat):ao:=(s.getD i aj.dflt).1
def ga (s:List ae) (i:Nat):ByteArray:=(s.getD i aj.dflt).2.1
noncomputable def K7 (s:List ae) (i:Nat):List ag:=b7 ((cR (ga s i)).getD [])
def uf (s:List ae) (ar:List ag):List Nat:=(List.range s.length).filter fun k=>ar.any fun a=>dJ a (aX s k)
noncomputable def bR (s:List ae) (i:Nat):List Nat:=uf s (K7 s i)
def aY (s:List ae) (F:Nat→ab):List ah:=(List.range s.length).map fun k=>(aX s k,F k,())
theorem RA {s:List ae} {ar:List ag} {k:Nat}:k∈uf s ar↔k < s.length∧(ar.any fun a=>dJ a (aX s k))=true:=by
 unfold uf
 rw[List.mem_filter,List.mem_range]
theorem L3 {s:List ae} : ∀ i,∀ k∈bR s i,k∈List.range s.length:=fun i k hk=>List.mem_range.2 (RA.1 hk).1
theorem OS (s:List ae) (ar:List ag) (F:Nat→ab):kk ar (aY s F)=(uf s ar).map fun k=>(aX s k,F k,()):=by
 unfold kk aY uf
 rw[List.filter_map]
 rfl
theorem Z5 {s:List ae} {ar:List ag} {F G:Nat→ab} (h : ∀ k∈uf s ar,F k=G k):kk ar (aY s F)=kk ar (aY s G):=by
 rw[OS,OS]
 exact List.map_congr_left fun k hk=>by rw[h k hk]
theorem K8 {f:List aa} {l m:List ah} (hf:fF f=true) (h:kk (b7 f) l=kk (b7 f) m):fK f l=fK f m:=by
 rw[←OG (l:=l) hf,←OG (l:=m) hf,h]
theorem BN {s:List ae} {i:Nat} {f:List aa} {F G:Nat→ab} (hx:(ga s i).size≤9223372036854775807) (hf:cR (ga s i)=some f) (h : ∀ k∈bR s i,F k=G k):fK f (aY s F)=fK f (aY s G):=by
 refine K8 (kP hf hx) (Z5 fun k hk=>h k ?_)
 unfold bR K7
 rw[hf]
 exact hk
section
variable (s:List ae) (told:Nat→Bool) (given:Nat→ab)
def Ym (i:Nat):Prop:=told i=true∨cR (ga s i)=none∨dU (bR s) i i
open Classical in
noncomputable def lB:Nat→Nat→ab
 | 0,_=>v0
 | n+1,i=>if told i=true then given i else match cR (ga s i) with
  | none=>(bB (lb (ga s i))).1
  | some f=>if dU (bR s) i i then vE 5 else fK f (aY s (lB n))
noncomputable def db (i:Nat):ab:=lB s told given (s.length+1) i
variable {s told given}
theorem VZ {i:Nat} (h:Ym s told i) (n m:Nat):lB s told given (n+1) i=lB s told given (m+1) i:=by
 unfold lB
 by_cases ht:told i=true
 ·rw[if_pos ht,if_pos ht]
 ·rw[if_neg ht,if_neg ht]
  cases hf:cR (ga s i) with
  | none=>rfl
  | some f =>
   by_cases hr:dU (bR s) i i
   ·simp only[if_pos hr]
   ·rcases h with h | h | h
    ·exact absurd h ht
    ·rw[hf] at h; cases h
    ·exact absurd h hr
open Classical in
theorem Y2 {i k:Nat} (hk:k∈bR s i):1≤yE (bR s) (List.range s.length) i:=by
 unfold yE
 have:k∈(List.range s.length).filter fun j=>decide (dU (bR s) i j):=List.mem_filter.2 ⟨L3 i k hk,by
  rw[decide_eq_true_eq]
  exact .one hk⟩
 exact List.length_pos_of_mem this
theorem V0 (i:Nat):yE (bR s) (List.range s.length) i≤s.length:=by
 unfold yE
 refine Nat.le_trans (List.length_filter_le _ _) ?_
 rw[List.length_range]
 exact Nat.le_refl _
theorem V1 (hs : ∀ i,(ga s i).size≤9223372036854775807) {i n m:Nat} (ih : ∀ k∈bR s i,lB s told given n k=lB s told given m k):lB s told given (n+1) i=lB s told given (m+1) i:=by
 unfold lB
 by_cases ht:told i=true
 ·rw[if_pos ht,if_pos ht]
 ·rw[if_neg ht,if_neg ht]
  cases hf:cR (ga s i) with
  | none=>rfl
  | some f =>
   by_cases hr:dU (bR s) i i
   ·simp only[if_pos hr]
   ·simp only[if_neg hr]
    exact BN (hs i) hf ih
theorem Fg (hs : ∀ i,(ga s i).size≤9223372036854775807) : ∀(n m i:Nat),yE (bR s) (List.range s.length) i < n→yE (bR s) (List.range s.length) i < m→lB s told given n i=lB s told given m i
 | 0,_,_,h,_=>by omega
 | _+1,0,_,_,h=>by omega
 | n+1,m+1,i,hn,hm=>by
  refine V1 hs fun k hk => ?_
  have hp:=Y2 hk
  by_cases hl:Ym s told k
  ·obtain⟨n',rfl⟩ : ∃ n',n=n'+1:=⟨n - 1,by omega⟩
   obtain⟨m',rfl⟩ : ∃ m',m=m'+1:=⟨m - 1,by omega⟩
   exact VZ hl n' m'
  ·have hc:=NL (N:=List.range s.length) L3 hk fun hr=>hl (.inr (.inr hr))
   exact Fg hs n m k (by omega) (by omega)
open Classical in
theorem r9 (hs : ∀ i,(ga s i).size≤9223372036854775807) (i:Nat):db s told given i=if told i=true then given i else match cR (ga s i) with
  | none=>(bB (lb (ga s i))).1
  | some f=>if dU (bR s) i i then vE 5 else fK f (aY s (db s told given)):=by
 have h1:db s told given i=lB s told given (s.length+2) i:=Fg hs _ _ i (by have:=V0 (s:=s) i; omega) (by have:=V0 (s:=s) i; omega)
 rw[h1]
 rfl
end
section
variable {α:Type}
theorem BO {p:α→Bool} : ∀(l:List α) (n:Nat),decide (mH p l n≥0)=l.any p
 | [],n=>by
  show decide ((-1:Int)≥0)=false
  decide
 | c :: l,n=>by
  unfold mH
  rw[List.any_cons]
  by_cases h:p c=true
  ·rw[if_pos h,h,Bool.true_or]
   exact decide_eq_true (by omega)
  ·rw[if_neg h,BO l (n+1)]
   simp[h]
theorem DH (l:List α) (d:α):(List.range l.length).map (fun i=>l.getD i d)=l:=by
 apply List.ext_getElem
 ·simp
 ·intro i h1 h2
  simp[List.getD_eq_getElem?_getD,h2]
theorem pQ {l:List α} {d:α} {i:Nat} (h:i < l.length):l[i]? = some (l.getD i d):=by
 rw[List.getD_eq_getElem?_getD,List.getElem?_eq_getElem h]
 rfl
theorem sc {l:List α} {d:α} {i:Nat} (h:i < l.length):l.getD i d∈l:=List.mem_of_getElem? (pQ h)
end
theorem tI {α β:Type} {xs:List α} {i:Nat} {y d:α} {f:α→Option β} (h:xs[i]? = some y):ix xs (i:Int) d f=f y:=bV (nn _) h
theorem OT {f:List aa} (hf:f.length≤60) : ∀(ys pre:List aa) (acc:List ag),f=pre++ys→acc.length≤pre.length→lp f (f.length:Int) (pre.length:Int) acc=some ((acc++b7 ys,()),())
 | [],pre,acc,h,ha=>by
  rw[Ah,aA (bj h)]
  simp[b7]
 | y :: ys,pre,acc,h,ha=>by
  have hlen:pre.length≤60:=by
   have:=congrArg List.length h
   simp only[List.length_append,List.length_cons] at this
   omega
  have ih:=OT hf ys (pre++[y])
  rw[Ah,aB (bu h),br h,aJ h (by omega)]
  simp only[Av,Option.bind_some]
  have hsum:acc++[de y]++b7 ys=acc++(de y :: b7 ys):=by simp
  have happ:(acc.length+([de y]:List ag).length)*32≤140737488355328:=by simp only[List.length_singleton]; omega
  by_cases h2:y.1=2
  ·rw[if_pos (by simpa using h2),bd happ,ih (acc++[de y]) (az h) (by simp only[List.length_append,List.length_singleton]; omega),hsum]
   simp[b7,sT,h2]
  ·rw[if_neg (by simpa using h2)]
   by_cases h3:y.1=3
   ·rw[if_pos (by simpa using h3),bd happ,ih (acc++[de y]) (az h) (by simp only[List.length_append,List.length_singleton]; omega),hsum]
    simp[b7,sT,h3]
   ·rw[if_neg (by simpa using h3),ih acc (az h) (by simp only[List.length_append,List.length_singleton]; omega)]
    simp[b7,sT,h2,h3]
theorem OU {f:List aa} (hl:f.length≤60):vH f=some ((b7 f,()),()):=by
 rw[P1,show(0:Int)=(([]:List aa).length:Int) from rfl,OT hl f [] [] rfl (Nat.le_refl _)]
 rfl
theorem OV {f:List aa} (hf:f.length≤60) : ∀(ys pre:List aa) (acc:List ag),f=pre++ys→acc.length≤pre.length→ll f (pre.length:Int) acc=some ((acc++b7 ys,()),())
 | [],pre,acc,h,ha=>by
  rw[Ac,aA (bj h)]
  simp[b7]
 | y :: ys,pre,acc,h,ha=>by
  have hlen:pre.length≤60:=by
   have:=congrArg List.length h
   simp only[List.length_append,List.length_cons] at this
   omega
  have ih:=OV hf ys (pre++[y])
  rw[Ac,aB (bu h),br h,aJ h (by omega)]
  have hsum:acc++[de y]++b7 ys=acc++(de y :: b7 ys):=by simp
  have happ : ∀ a:ag,(acc.length+([a]:List ag).length)*32≤140737488355328:=fun a=>by simp only[List.length_singleton]; omega
  by_cases h2:y.1=2
  ·have ha2:(y.2.2.2.1.1,y.2.2.2.1.1,())=de y:=by unfold de; rw[if_pos h2]
   rw[if_pos (by simpa using h2)]
   simp only[br h]
   rw[ha2,bd (happ _),ih (acc++[de y]) (az h) (by simp only[List.length_append,List.length_singleton]; omega),hsum]
   simp[b7,sT,h2]
  ·have ha3:(y.2.2.2.1.1,y.2.2.2.2.1.1,())=de y:=by unfold de; rw[if_neg h2]
   rw[if_neg (by simpa using h2)]
   by_cases h3:y.1=3
   ·rw[if_pos (by simpa using h3)]
    simp only[br h]
    rw[ha3,bd (happ _),ih (acc++[de y]) (az h) (by simp only[List.length_append,List.length_singleton]; omega),hsum]
    simp[b7,sT,h3]
   ·rw[if_neg (by simpa using h3),ih acc (az h) (by simp only[List.length_append,List.length_singleton]; omega)]
    simp[b7,sT,h2,h3]
theorem Z6 {f:List aa} (hf:fF f=true):FN f=some ((b7 f,()),()):=by
 have hs:=tH hf
 have hl:=hs.1
 rw[PO,k8 (f:=f) (by omega) hs.2.1 hs.2.2,hf]
 simp only[Option.bind_some,Bool.not_true,Bool.false_eq_true,if_false]
 rw[show(0:Int)=(([]:List aa).length:Int) from rfl,OV hl f [] [] rfl (Nat.le_refl _)]
 rfl
noncomputable def fo (x:ByteArray):List ag:=b7 ((cR x).getD [])
theorem Ii (f:List aa):(b7 f).length≤f.length:=by
 unfold b7
 rw[List.length_map]
 exact List.length_filter_le _ _
theorem Jr {x:ByteArray} (hx:x.size≤9223372036854775807):((cR x).getD []).length≤60:=by
 cases h:cR x with
 | none=>exact Nat.zero_le _
 | some f=>exact(tH (kP h hx)).1
theorem pR {x:ByteArray} (hx:x.size≤9223372036854775807):(fo x).length≤60:=Nat.le_trans (Ii _) (Jr hx)
theorem sU {x:ByteArray} (hx:x.size≤9223372036854775807):rQ x=some ((fo x,()),()):=by
 rw[PP,Yl hx,Option.bind_some]
 unfold fo
 cases h:cR x with
 | none=>rfl
 | some f =>
  dsimp only[Option.isSome_some,Option.getD_some]
  rw[if_neg (by decide),Z6 (kP h hx)]
  rfl
theorem XL {ar:List ag} {r:ao} (hl:ar.length≤1000000000):bT ar (ar.length:Int) 0 r=some ((mH (fun a=>dJ a r) ar 0,()),(r,())):=by
 have:=wG (s:=ar) (d:=au.dflt) (p:=fun a=>dJ a r) (P:=fun j=>bT ar (ar.length:Int) j r) (F:=fun j=>some ((j,()),(r,()))) (by omega) (fun j=>by
  rw[gw]
  simp only[E3,wv,Option.bind_some]) ar [] rfl
 exact this
theorem Y3 {ar:List ag} {n i:Int} {r:ao}:eM ar n i r.1 r.2.1=bT ar n i r:=by
 rw[nl,gw]
 simp only[SY,E3] <;> rfl
theorem XM {ar:List ag} (r:ao) (hl:ar.length≤1000000000):Si ar r=some ((ar.any fun a=>dJ a r,()),()):=by
 rw[W2,ni,pe,Y3,XL hl]
 simp only[Option.bind_some,BO]
theorem Fh {l:List ao} {r:ao} (hl:l.length≤1000000000) : ∀(ys pre:List ao),l=pre++ys→xl l (pre.length:Int) r.1 r.2.1=some ((decide (r∈ys),()),())
 | [],pre,h=>by
  rw[Db,aA (bj h)]
  simp
 | y :: ys,pre,h=>by
  rw[Db,aB (bu h),br h,aJ h (by omega),Fh hl ys _ (az h)]
  show(if bp ap y r=true then _ else _)=_
  by_cases e:y=r
  ·rw[if_pos (by rw[mG]; exact e)]
   simp[e]
  ·rw[if_neg (by rw[mG]; exact e)]
   simp[Ne.symm e]
theorem xZ {l:List ao} (r:ao) (hl:l.length≤1000000000):nY l r=some ((decide (r∈l),()),()):=by
 rw[U2]
 exact Fh hl l [] rfl
theorem Y4 {l:List ao} {r:ao} (hl:l.length≤1000000000):lv l r=some ((decide (r∈l),()),()):=by
 have h:fO l (l.length:Int) 0 r.1 r.2.1=some ((mH (fun y=>bp ap r y) l 0,()),()):=wG (s:=l) (d:=ap.dflt) (p:=fun y=>bp ap r y) (P:=fun j=>fO l (l.length:Int) j r.1 r.2.1) (F:=fun j=>some ((j,()),())) (by omega) (fun j=>yA) l [] rfl
 rw[yz,Co,h]
 simp only[Option.bind_some,BO]
 have e:(l.any fun y=>bp ap r y)=decide (r∈l):=by
  rw[Bool.eq_iff_iff,List.any_eq_true,decide_eq_true_eq]
  constructor
  ·rintro⟨y,hy,h⟩
   rw[mG] at h
   rw[h]
   exact hy
  ·intro h
   exact⟨r,h,by rw[mG]⟩
 rw[e]
section
variable {s:List ae} (hl:s.length≤1000000) {ar:List ag} (ha:ar.length≤1000000)
include hl ha
theorem OW {y:ae} {pre ys:List ae} (h:s=pre++y :: ys) {acc:List ao} : ∀(bs pa:List ag) (b:Bool),ar=pa++bs→oi s (pre.length:Int) b (pa.length:Int) acc ar=if(b || bs.any fun a=>dJ a y.1)=true then app acc [y.1] 16 (fun y3=>jJ s (IntKind.i64.wrap ((pre.length:Int)+1)) y3 ar) else jJ s (IntKind.i64.wrap ((pre.length:Int)+1)) acc ar
 | [],pa,b,e=>by
  rw[Aj,aA (bj e),br h,List.any_nil,Bool.or_false]
 | a :: bs,pa,b,e=>by
  have ih:=OW h (acc:=acc) bs (pa++[a])
  rw[Aj,aB (bu e),aJ e (by omega)]
  cases b with
  | true =>
   rw[if_pos rfl,ih true (az e)]
   simp only[Bool.true_or]
  | false =>
   have hg:List.getD ar (Int.toNat (pa.length:Int)) au.dflt=a:=by rw[e]; exact gC
   rw[if_neg (by decide),br h,gZ e,hg,rf,Option.bind_some,ih _ (az e)]
   simp only[List.any_cons,Bool.false_or]
theorem DI : ∀(ys pre:List ae) (acc:List ao),s=pre++ys→acc.length≤pre.length→jJ s (pre.length:Int) acc ar=some ((acc++(ys.filter fun c=>ar.any fun a=>dJ a c.1).map (·.1),()),())
 | [],pre,acc,h,hb=>by
  rw[Ae,aA (bj h)]
  simp
 | y :: ys,pre,acc,h,hb=>by
  have hlen:s.length=pre.length+(ys.length+1):=by rw[h]; simp
  have e:=OW hl ha h (acc:=acc) ar [] false rfl
  rw[Ae,aB (bu h)]
  refine e.trans ?_
  rw[aJ h (by omega),Bool.false_or]
  by_cases c:(ar.any fun a=>dJ a y.1)=true
  ·rw[if_pos c,bd (by simp only[List.length_singleton]; omega),DI ys _ _ (az h) (by simp only[List.length_append,List.length_singleton]; omega),List.filter_cons_of_pos (p:=fun c:ae=>ar.any fun a=>dJ a c.1) c]
   simp
  ·rw[if_neg c,DI ys _ _ (az h) (by simp only[List.length_append,List.length_singleton]; omega),List.filter_cons_of_neg (p:=fun c:ae=>ar.any fun a=>dJ a c.1) c]
end
theorem XN {s:List ae} (h:bz s=true) (r:ao):(gH r s).size≤200:=by
 rcases XG (q:=r) (gi h) with⟨c,hc,_,e⟩ | ⟨_,e⟩
 ·rw[←e]
  exact rk h c hc
 ·rw[e]
  decide
theorem Y5 {s:List ae} (h:bz s=true) (r:ao):oZ s r=some (((s.filter fun c=>(fo (gH r s)).any fun a=>dJ a c.1).map (·.1),()),()):=by
 have h1:=bn h
 have h2:(gH r s).size≤9223372036854775807:=Nat.le_trans (XN h r) (by decide)
 have h3:=pR h2
 rw[PR,OO (by omega),Option.bind_some,sU h2,Option.bind_some]
 dsimp only
 exact DI (by omega) (by omega) s [] [] rfl (Nat.le_refl _)
theorem Y6 (s:List ae) (ar:List ag):(uf s ar).map (aX s)=(s.filter fun c=>ar.any fun a=>dJ a c.1).map (·.1):=by
 have key : ∀ t:List ae,(List.range s.length).map (fun i=>s.getD i aj.dflt)=t→(uf s ar).map (aX s)=(t.filter fun c=>ar.any fun a=>dJ a c.1).map (·.1):=by
  rintro _ rfl
  rw[List.filter_map,List.map_map]
  rfl
 exact key s (DH s _)
theorem RB {s:List ae} (h:jO s) {i:Nat} (hi:i < s.length):gH (aX s i) s=ga s i:=DF h (sc hi)
theorem OX {s:List ae} (h:bz s=true) {i:Nat} (hi:i < s.length):oZ s (aX s i)=some (((bR s i).map (aX s),()),()):=by
 rw[Y5 h,RB (gi h) hi]
 unfold bR
 rw[Y6]
 rfl
theorem V2 {s pre ys:List ae} {y:ae} (h:s=pre++y :: ys):aX s pre.length=y.1:=by
 unfold aX
 rw[h,List.getD_eq_getElem?_getD]
 simp
noncomputable def gF (s:List ae):List (List aa):=s.map fun c=>(cR c.2.1).getD []
noncomputable def gL (s:List ae):List (List Int):=s.map fun c=>(uf s (fo c.2.1)).map fun k:Nat=>(k:Int)
noncomputable def gr (s:List ae):List ae×(List (List aa)×(List (List Int)×Unit)):=(s,gF s,gL s,())
theorem Yn {s:List ae} {i:Nat} (h:i < s.length):(gF s)[i]? = some ((cR (ga s i)).getD []):=by
 unfold gF
 rw[List.getElem?_map,pQ (d:=aj.dflt) h]
 rfl
theorem TO {s:List ae} {i:Nat} (h:i < s.length):(gL s)[i]? = some ((bR s i).map fun k:Nat=>(k:Int)):=by
 unfold gL
 rw[List.getElem?_map,pQ (d:=aj.dflt) h]
 rfl
theorem AC (s:List ae) (ar:List ag):(uf s ar).length≤s.length:=by
 unfold uf
 have:=List.length_filter_le (fun k=>ar.any fun a=>dJ a (aX s k)) (List.range s.length)
 rw[List.length_range] at this
 exact this
section
variable {s:List ae} (hl:s.length≤1000000) (hs : ∀ c∈s,c.2.1.size≤9223372036854775807)
include hl
theorem OY {x0 x1:List ae} {x2 x3:Int} {x7 x11:List ae} {x12 x14:List (List aa)} {x13 x15:List (List Int)} {f:List aa} {ar:List ag} (ha:ar.length≤1000000) : ∀(ys pre:List ae) (acc:List Int),s=pre++ys→acc.length≤pre.length →
  my x0 x1 x2 x3 s (s.length:Int) (pre.length:Int) x7 f ar acc x11 x12 x13 x14 x15=app x14 [f] 24 fun y3=>app x15 [acc++((List.range' pre.length ys.length).filter fun k=>ar.any fun a=>dJ a (aX s k)).map fun k:Nat=>(k:Int)] 24 fun y4=>mn x0 x1 x2 (IntKind.i64.wrap (x3+1)) x7 x11 x12 x13 y3 y4
 | [],pre,acc,h,hb=>by
  rw[xH,aA (bj h)]
  simp
 | y :: ys,pre,acc,h,hb=>by
  have hlen:s.length=pre.length+(ys.length+1):=by rw[h]; simp
  have ih:=OY (x0:=x0) (x1:=x1) (x2:=x2) (x3:=x3) (x7:=x7) (x11:=x11) (x12:=x12) (x13:=x13) (x14:=x14) (x15:=x15) (f:=f) ha ys (pre++[y])
  have e0:(pre++[y]).length=pre.length+1:=by simp
  rw[xH,aB (bu h),br h,XM _ (by omega),Option.bind_some,aJ h (by omega)]
  rw[List.length_cons,List.range'_succ,List.filter_cons,V2 h]
  rw[e0] at ih
  dsimp only
  by_cases c:(ar.any fun a=>dJ a y.1)=true
  ·rw[if_pos c,if_pos c,bd (by simp only[List.length_singleton]; omega),e0,ih _ (az h) (by simp only[List.length_append,List.length_singleton]; omega)]
   simp
  ·rw[if_neg c,if_neg c,e0,ih _ (az h) (by omega)]
include hs
theorem K9 : ∀(ys pre:List ae) (fs:List (List aa)) (ls:List (List Int)),s=pre++ys→fs.length=pre.length→ls.length=pre.length →
  mn s s (s.length:Int) (pre.length:Int) s [] [] [] fs ls=some (((s,fs++ys.map (fun c=>(cR c.2.1).getD []),ls++ys.map (fun c=>(uf s (fo c.2.1)).map fun k:Nat=>(k:Int)),()),()),())
 | [],pre,fs,ls,h,h1,h2=>by
  rw[xz,aA (bj h)]
  simp
 | y :: ys,pre,fs,ls,h,h1,h2=>by
  have hlen:s.length=pre.length+(ys.length+1):=by rw[h]; simp
  have hy:y.2.1.size≤9223372036854775807:=hs y (by rw[h]; simp)
  have h3:=pR hy
  have hg:=OY hl (x0:=s) (x1:=s) (x2:=(s.length:Int)) (x3:=(pre.length:Int)) (x7:=s) (x11:=[]) (x12:=[]) (x13:=[]) (x14:=fs) (x15:=ls) (f:=(cR y.2.1).getD []) (ar:=fo y.2.1) (by omega) s [] [] rfl (Nat.le_refl _)
  rw[xz,aB (bu h),br h,Yk hy,Option.bind_some,OU (Jr hy),Option.bind_some]
  refine hg.trans ?_
  rw[bd (by simp only[List.length_singleton]; omega),bd (by simp only[List.length_singleton]; omega),aJ h (by omega),K9 ys _ _ _ (az h) (by simp[h1]) (by simp[h2])]
  have e:((List.range' ([]:List ae).length s.length).filter fun k=>(fo y.2.1).any fun a=>dJ a (aX s k))=uf s (fo y.2.1):=by
   unfold uf
   rw[List.range_eq_range']
   rfl
  rw[e]
  simp
theorem OZ:C2 s=some ((gr s,()),()):=by
 rw[Nu]
 exact K9 hl hs s [] [] [] rfl rfl rfl
end
open Classical in
noncomputable def yM (s:List ae) (i:Nat):Bool:=decide (dU (bR s) i i)
open Classical in
theorem mI {s:List ae} {i:Nat}:yM s i=true↔dU (bR s) i i:=by
 unfold yM
 exact⟨fun h=>of_decide_eq_true h,fun h=>decide_eq_true h⟩
theorem vd : ∀(l:List Bool) (i:Nat),i < l.length→l.getD i false=false→(l.set i true).count false+1=l.count false
 | [],i,h,_=>by simp at h
 | b :: l,0,_,e=>by
  have e:b=false:=e
  subst e
  simp
 | b :: l,i+1,h,e=>by
  have:=vd l i (by simpa using h) e
  rw[List.set_cons_succ,List.count_cons,List.count_cons]
  omega
theorem sd (l:List Bool) (i k:Nat) (h:i < l.length):(l.set i true).getD k false=if k=i then true else l.getD k false:=by
 rw[List.getD_eq_getElem?_getD,List.getD_eq_getElem?_getD,List.getElem?_set]
 by_cases e:k=i
 ·subst e
  simp[h]
 ·rw[if_neg (fun x=>e x.symm),if_neg e]
theorem wH : ∀(n:Nat) (l:List Nat),l.Nodup→(∀ k∈l,k < n)→l.length≤n
 | 0,l,_,h=>by
  cases l with
  | nil=>exact Nat.le_refl _
  | cons a l=>have:=h a (by simp); omega
 | n+1,l,hd,h=>by
  by_cases hm:n∈l
  ·have h1:=wH n (l.erase n) (hd.erase n) (fun k hk=>by
    have h2:=(hd.mem_erase_iff).1 hk
    have:=h k h2.2
    have:=h2.1
    omega)
   rw[List.length_erase_of_mem hm] at h1
   omega
  ·have h1:=wH n l hd (fun k hk=>by
    have:=h k hk
    have:k≠n:=fun e=>hm (e ▸ hk)
    omega)
   omega
theorem RC {s:List ae} {i:Nat} (h:i < s.length):aX s i=s[i].1:=by
 unfold aX
 rw[List.getD_eq_getElem?_getD,List.getElem?_eq_getElem h]
 rfl
theorem V3 {s:List ae} (hs:jO s) {i j:Nat} (h:i < j) (hj:j < s.length):ck (aX s i) (aX s j)=true:=by
 have hi:i < s.length:=by omega
 rw[RC hi,RC hj]
 exact List.pairwise_iff_getElem.1 hs i j hi hj h
theorem Js {s:List ae} (hs:jO s) {i j:Nat} (hi:i < s.length) (hj:j < s.length) (h:aX s i=aX s j):i=j:=by
 rcases Nat.lt_trichotomy i j with k | k | k
 ·exact absurd h (wF (V3 hs k hj))
 ·exact k
 ·exact absurd h.symm (wF (V3 hs k hi))
theorem V4 {s:List ae} (hs:jO s) {k:Nat} {t:List Nat} (hk:k < s.length) (ht : ∀ j∈t,j < s.length):aX s k∈t.map (aX s)↔k∈t:=by
 rw[List.mem_map]
 constructor
 ·rintro⟨j,hj,e⟩
  rw[←Js hs (ht j hj) hk e]
  exact hj
 ·intro h
  exact⟨k,h,rfl⟩
theorem mJ {s:List ae} {i k:Nat} (h:k∈bR s i):k < s.length:=List.mem_range.1 (L3 i k h)
theorem dU.lt {s:List ae} {i k:Nat} (h:dU (bR s) i k):k < s.length:=by
 cases h with
 | one e=>exact mJ e
 | more _ e=>exact mJ e
section
variable {s:List ae} (hn:s.length≤120)
include hn
theorem yN {a:Nat} (ha:a < s.length) : ∀(m:Nat) (met:List Bool) (pre ys:List Nat),met.length=s.length→(∀ k∈pre++ys,k < s.length∧dU (bR s) a k)→(∀ k∈bR s a,k∈pre++ys)→(∀ k∈pre,k≠a)→(∀ k∈pre,met.getD k false=true)→(∀ k,met.getD k false=true → ∀ j∈bR s k,j∈pre++ys) →
  met.count false*120+ys.length≤m→met.count false*120+pre.length+ys.length≤20000→fX (a:Int) (pre.length:Int) s (gF s) (gL s) met ((pre++ys).map fun k:Nat=>(k:Int))=some ((yM s a,()),())
 | m,met,pre,[],h0,h1,h2,h3,h4,h5,hm,hb=>by
  have e:yM s a=false:=by
   rw[Bool.eq_false_iff,ne_eq,mI]
   intro h
   have:=dU.closed (Q:=fun k=>k∈pre) (fun k hk=>by simpa using h2 k hk) (fun j hj k hk=>by simpa using h5 j (h4 j hj) k hk) h
   exact h3 _ this rfl
  rw[rt,aA (by simp),e]
 | 0,met,pre,y :: ys,h0,h1,h2,h3,h4,h5,hm,hb=>by
  rw[List.length_cons] at hm
  omega
 | m+1,met,pre,y :: ys,h0,h1,h2,h3,h4,h5,hm,hb=>by
  rw[List.length_cons] at hm hb
  obtain⟨hy,hr⟩:=h1 y (by simp)
  have hg:List.getD ((pre++y :: ys).map fun k:Nat=>(k:Int)) (Int.toNat (pre.length:Int)) 0=(y:Int):=by
   rw[List.getD_eq_getElem?_getD]
   simp
  have hlt:(pre.length:Int) < (((pre++y :: ys).map fun k:Nat=>(k:Int)).length:Int):=by
   simp only[List.length_map,List.length_append,List.length_cons]
   omega
  have hw:IntKind.i64.wrap ((pre.length:Int)+1)=((pre++[y]).length:Int):=by
   rw[fE (by omega) (by omega)]
   simp
  have hmet:Int.toNat (y:Int)=y:=rfl
  rw[rt,aB hlt,bC (nn _) hlt,hg]
  by_cases e:y=a
  ·subst e
   rw[if_pos (beq_self_eq_true _),mI.2 hr]
  ·rw[if_neg (by rw[beq_iff_eq]; omega),bC (xs:=met) (nn _) (by omega),hmet]
   by_cases hc:met.getD y false=true
   ·rw[hc,if_neg (by decide),hw,show pre++y :: ys=(pre++[y])++ys by simp]
    refine yN ha m met (pre++[y]) ys h0 (fun k hk=>h1 k (by simpa using hk)) (fun k hk=>by simpa using h2 k hk) (fun k hk => ?_) (fun k hk => ?_) (fun k hk j hj=>by simpa using h5 k hk j hj) (by omega) (by simp only[List.length_append,List.length_singleton]; omega)
    ·rcases List.mem_append.1 hk with hk | hk
     ·exact h3 k hk
     ·rw[List.mem_singleton.1 hk]
      exact e
    ·rcases List.mem_append.1 hk with hk | hk
     ·exact h4 k hk
     ·rw[List.mem_singleton.1 hk]
      exact hc
   ·have hc:met.getD y false=false:=by simpa using hc
    have hcs:=vd met y (by omega) hc
    have hil:=AC s (K7 s y)
    have hil:(bR s y).length≤s.length:=hil
    rw[hc,if_pos (by decide),bC (xs:=met) (nn _) (by omega),tI (TO hy),bd (by simp only[List.length_map,List.length_append,List.length_cons]; omega),hw]
    have eq:((pre++y :: ys).map fun k:Nat=>(k:Int))++((bR s y).map fun k:Nat=>(k:Int))=(((pre++[y])++(ys++bR s y)).map fun k:Nat=>(k:Int)):=by simp
    have em : ∀ k,k∈(pre++[y])++(ys++bR s y)↔k∈pre++y :: ys∨k∈bR s y:=fun k=>by simp[or_assoc]
    rw[eq]
    refine yN ha m (met.set y true) (pre++[y]) (ys++bR s y) (by rw[List.length_set]; exact h0) (fun k hk => ?_) (fun k hk=>(em k).2 (.inl (h2 k hk))) (fun k hk => ?_) (fun k hk => ?_) (fun k hk j hj => ?_) (by rw[List.length_append]; omega) (by simp only[List.length_append,List.length_singleton]; omega)
    ·rcases(em k).1 hk with hk | hk
     ·exact h1 k hk
     ·exact⟨mJ hk,.more hr hk⟩
    ·rcases List.mem_append.1 hk with hk | hk
     ·exact h3 k hk
     ·rw[List.mem_singleton.1 hk]
      exact e
    ·rw[sd _ _ _ (by omega)]
     rcases List.mem_append.1 hk with hk | hk
     ·rw[h4 k hk]
      split <;> rfl
     ·rw[List.mem_singleton.1 hk,if_pos rfl]
    ·rw[sd _ _ _ (by omega)] at hk
     rw[em]
     by_cases ek:k=y
     ·subst ek
      exact .inr hj
     ·rw[if_neg ek] at hk
      exact .inl (h5 k hk j hj)
theorem TP {l:List Int} (h:l.length≤1000000):gb l=some ((l,()),()):=by
 rw[uQ]
 unfold dd
 simp only[i8?,dite_true,Option.bind_some]
 exact if_pos (by omega)
theorem V5 {a:Nat} (ha:a < s.length):kV (gr s) (a:Int)=some ((yM s a,()),()):=by
 have hil:(bR s a).length≤s.length:=AC s (K7 s a)
 rw[FW]
 show(EJ (s.length:Int) 1 false fun y1=>(ix (gL s) (a:Int) ([]:(List Int)) fun y2=>((gb y2).bind fun z1=>(fX (a:Int) 0 s (gF s) (gL s) y1 z1.1.1))))=_
 rw[zN (by omega),tI (TO ha),TP hn (by rw[List.length_map]; omega),Option.bind_some]
 have hc:(List.replicate s.length false).count false=s.length:=by simp
 refine yN hn ha (s.length*120+120) (List.replicate s.length false) [] (bR s a) (by simp) (fun k hk => ?_) (fun k hk=>by simpa using hk) (fun k hk=>by cases hk) (fun k hk=>by cases hk) (fun k hk j hj => ?_) (by omega) (by rw[hc,List.length_nil]; omega)
 ·have hk:k∈bR s a:=by simpa using hk
  exact⟨mJ hk,.one hk⟩
 ·rw[List.getD_eq_getElem?_getD,List.getElem?_replicate] at hk
  split at hk <;> cases hk
end
def wI:List Nat→List Nat→List Nat
 | t,[]=>t
 | t,k :: ks=>if k∈t then wI t ks else wI (t++[k]) ks
theorem Jt : ∀(ks t:List Nat),t.Nodup→(∃ ex,wI t ks=t++ex)∧(wI t ks).Nodup ∧ ∀ j,j∈wI t ks↔j∈t∨j∈ks
 | [],t,h=>⟨⟨[],by simp[wI]⟩,h,fun j=>by simp[wI]⟩
 | k :: ks,t,h=>by
  unfold wI
  by_cases hk:k∈t
  ·rw[if_pos hk]
   obtain⟨h1,h2,h3⟩:=Jt ks t h
   refine⟨h1,h2,fun j => ?_⟩
   rw[h3,List.mem_cons]
   constructor
   ·rintro(e | e)
    ·exact .inl e
    ·exact .inr (.inr e)
   ·rintro(e | e | e)
    ·exact .inl e
    ·rw[e]
     exact .inl hk
    ·exact .inr e
  ·rw[if_neg hk]
   have hd:(t++[k]).Nodup:=by
    rw[List.nodup_append]
    refine⟨h,by simp,fun a ha b hb => ?_⟩
    rw[List.mem_singleton.1 hb]
    exact fun e=>hk (e ▸ ha)
   obtain⟨⟨ex,h1⟩,h2,h3⟩:=Jt ks (t++[k]) hd
   refine⟨⟨k :: ex,by rw[h1]; simp⟩,h2,fun j => ?_⟩
   rw[h3,List.mem_append,List.mem_singleton,List.mem_cons,or_assoc]
section
variable {s:List ae} (hs:bz s=true)
include hs
theorem Ju {i:Int} {r:ao} {more:List Nat} (hm : ∀ k∈more,k < s.length) (hml:more.length≤120) : ∀(ys pre t:List Nat),more=pre++ys→(∀ k∈t,k < s.length)→t.length+ys.length≤1000000 →
  mw s i (pre.length:Int) r.1 r.2.1 (t.map (aX s)) (more.map (aX s))=mj s (IntKind.i64.wrap (i+1)) r.1 r.2.1 ((wI t ys).map (aX s))
 | [],pre,t,h,ht,hb=>by
  have e:=bj h
  rw[xG,aA (by rw[List.length_map]; exact e)]
  rfl
 | y :: ys,pre,t,h,ht,hb=>by
  rw[List.length_cons] at hb
  have hlen:more.length=pre.length+(ys.length+1):=by rw[h]; simp
  have hlt:(pre.length:Int) < ((more.map (aX s)).length:Int):=by rw[List.length_map]; exact bu h
  have hg:List.getD (more.map (aX s)) (Int.toNat (pre.length:Int)) ap.dflt=aX s y:=by
   rw[h,List.getD_eq_getElem?_getD]
   simp
  have hy:=hm y (by rw[h]; simp)
  have hw:IntKind.i64.wrap ((pre.length:Int)+1)=((pre++[y]).length:Int):=aJ h (by omega)
  rw[xG,aB hlt,bC (nn _) hlt,hg,xZ _ (by rw[List.length_map]; omega),Option.bind_some,hw]
  have hd:decide (aX s y∈t.map (aX s))=decide (y∈t):=by
   rw[Bool.eq_iff_iff,decide_eq_true_eq,decide_eq_true_eq]
   exact V4 (gi hs) hy ht
  dsimp only
  rw[hd]
  unfold wI
  by_cases e:y∈t
  ·rw[if_pos e,decide_eq_true e,if_neg (by decide)]
   exact Ju hm hml ys _ t (az h) ht (by omega)
  ·rw[if_neg e,decide_eq_false e,if_pos (by decide),bC (nn _) hlt,bd (by simp only[List.length_map,List.length_singleton]; omega),show t.map (aX s)++[aX s y]=(t++[y]).map (aX s) by simp]
   refine Ju hm hml ys _ (t++[y]) (az h) (fun k hk => ?_) (by simp only[List.length_append,List.length_singleton]; omega)
   rcases List.mem_append.1 hk with hk | hk
   ·exact ht k hk
   ·rw[List.mem_singleton.1 hk]
    exact hy
theorem O0 {a:Nat} (ha:a < s.length) : ∀(m:Nat) (pre ys:List Nat),(pre++ys).Nodup→(∀ k∈pre++ys,k < s.length∧dU (bR s) a k)→(∀ k∈bR s a,k∈pre++ys)→(∀ k∈pre,k≠a)→(∀ k∈pre,∀ j∈bR s k,j∈pre++ys)→s.length≤pre.length+m →
  mj s (pre.length:Int) (aX s a).1 (aX s a).2.1 ((pre++ys).map (aX s))=some ((yM s a,()),())
 | m,pre,[],hd,h1,h2,h3,h5,hm=>by
  have e:yM s a=false:=by
   rw[Bool.eq_false_iff,ne_eq,mI]
   intro h
   have:=dU.closed (Q:=fun k=>k∈pre) (fun k hk=>by simpa using h2 k hk) (fun j hj k hk=>by simpa using h5 j hj k hk) h
   exact h3 _ this rfl
  rw[xx,aA (by simp),e]
 | 0,pre,y :: ys,hd,h1,h2,h3,h5,hm=>by
  have:=wH s.length _ hd fun k hk=>(h1 k hk).1
  rw[List.length_append,List.length_cons] at this
  omega
 | m+1,pre,y :: ys,hd,h1,h2,h3,h5,hm=>by
  have hn:=bn hs
  have hl:=wH s.length _ hd fun k hk=>(h1 k hk).1
  rw[List.length_append,List.length_cons] at hl
  obtain⟨hy,hr⟩:=h1 y (by simp)
  have hg:List.getD ((pre++y :: ys).map (aX s)) (Int.toNat (pre.length:Int)) ap.dflt=aX s y:=by
   rw[List.getD_eq_getElem?_getD]
   simp
  have hlt:(pre.length:Int) < (((pre++y :: ys).map (aX s)).length:Int):=by
   simp only[List.length_map,List.length_append,List.length_cons]
   omega
  have hw:IntKind.i64.wrap ((pre.length:Int)+1)=((pre++[y]).length:Int):=by
   rw[fE (by omega) (by omega)]
   simp
  rw[xx,aB hlt,bC (nn _) hlt,hg]
  show(if bp ap (aX s y) (aX s a)=true then _ else _)=_
  by_cases e:y=a
  ·subst e
   rw[if_pos (by rw[mG]),mI.2 hr]
  ·have e' : ¬aX s y=aX s a:=fun k=>e (Js (gi hs) hy ha k)
   have hil:(bR s y).length≤s.length:=AC s (K7 s y)
   rw[if_neg (by rw[mG]; exact e'),bC (nn _) hlt,OX hs hy,Option.bind_some]
   have hin:=Ju hs (i:=(pre.length:Int)) (r:=aX s a) (more:=bR s y) (fun k hk=>mJ hk) (by omega) (bR s y) [] (pre++y :: ys) rfl (fun k hk=>(h1 k hk).1) (by simp only[List.length_append,List.length_cons]; omega)
   refine hin.trans ?_
   obtain⟨⟨ex,x1⟩,x2,x3⟩:=Jt (bR s y) (pre++y :: ys) hd
   have x4:wI (pre++y :: ys) (bR s y)=(pre++[y])++(ys++ex):=by rw[x1]; simp
   rw[x4] at x2 x3
   rw[x4,hw]
   refine O0 ha m (pre++[y]) (ys++ex) x2 (fun k hk => ?_) (fun k hk=>(x3 k).2 (.inl (h2 k hk))) (fun k hk => ?_) (fun k hk j hj => ?_) (by simp only[List.length_append,List.length_singleton]; omega)
   ·rcases(x3 k).1 hk with hk | hk
    ·exact h1 k hk
    ·exact⟨mJ hk,.more hr hk⟩
   ·rcases List.mem_append.1 hk with hk | hk
    ·exact h3 k hk
    ·rw[List.mem_singleton.1 hk]
     exact e
   ·rcases List.mem_append.1 hk with hk | hk
    ·exact(x3 j).2 (.inl (h5 k hk j hj))
    ·rw[List.mem_singleton.1 hk] at hj
     exact(x3 j).2 (.inr hj)
theorem V6 (i:Nat):(bR s i).Nodup:=by
 unfold bR uf
 exact List.Pairwise.filter _ List.nodup_range
theorem TQ {a:Nat} (ha:a < s.length):xh s (aX s a)=some ((yM s a,()),()):=by
 rw[Nm,OX hs ha,Option.bind_some]
 refine O0 hs ha s.length [] (bR s a) (V6 hs a) (fun k hk => ?_) (fun k hk=>by simpa using hk) (fun k hk=>by cases hk) (fun k hk=>by cases hk) (by omega)
 have hk:k∈bR s a:=by simpa using hk
 exact⟨mJ hk,.one hk⟩
end
end Go.Proofs.YteaahciglahehaaGreatDoor.Abs
