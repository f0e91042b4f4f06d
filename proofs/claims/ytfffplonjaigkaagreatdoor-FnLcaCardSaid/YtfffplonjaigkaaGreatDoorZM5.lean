/- Plain laws: values that the program reads. -/
import Derived.Test.YtfffplonjaigkaaGreatDoorZM4
import Derived.Lib.IndexBytes
set_option linter.unusedVariables false
set_option linter.unusedSimpArgs false
set_option linter.unusedSectionVars false
open Bool renaming and_eq_true→P8,eq_false_iff→X3,eq_iff_iff→V3,false_eq_true→P9,false_or→bf_,not_false→S8,not_true→S1,or_eq_true→Z6,true_and→T3
open ByteArray renaming toList→P2
open Go.Lib renaming decDigits→R6,parseIntB→Y1,parseUintB→br_,parseUintM→am_
open Int renaming toNat_of_nonneg→X1,toNat→S6
open List renaming all_append→ac_,append_nil→T8,cons_append→Z7,dropWhile_cons_of_neg→V9,dropWhile_cons_of_pos→ar_,dropWhile_suffix→bs_,drop_append→bt_,drop_succ_cons→U1,drop_zero→W3,find?_cons→X8,getD→S9,head?_cons→W9,isPrefixOf_iff_prefix→Y8,length_append→P6,length_cons→Q1,length_drop→al_,length_singleton→P3,length→Q2,mem_cons→R4,prefix_iff_eq_take→ch_,prefix_refl→W7,takeWhile_cons_of_neg→aq_,take_append→ay_,take_left'→cc_
open Nat renaming le_refl→Q6,le_trans→T5
open Option renaming bind_some→P1,map_eq_some_iff→V0
open Option.some renaming injEq→R8,inj→U9
open _root_ renaming ByteArray→P0,absurd→S0,beq_iff_eq→T7,congrArg→Q3,decide_eq_false→S3,decide_eq_true_eq→Q0,decide_eq_true→R5,decide_false→V5,decide_true→U5,if_false→R0,if_neg→P4,if_pos→P5,if_true→S2
namespace Go.Proofs.YtfffplonjaigkaaGreatDoor.Abs
open Go
theorem GO : ∀(l:ae) (a:Nat),a≤bh a l
 | [],a=>Q6 _
 | c :: l,a=>by
  have:=GO l (a*10+(c.toNat - 48))
  show a≤bh (a*10+(c.toNat - 48)) l
  omega
theorem CU : ∀(l:ae) (a:Nat),l.all cR=true→bh a l≤100000000000000000→am_ 18446744073709551615 a l = .ok (bh a l)
 | [],a,_,_=>rfl
 | c :: l,a,h,hv=>by
  simp only[List.all_cons,P8] at h
  have hd:48≤c.toNat∧c.toNat≤57:=by simpa[cR] using h.1
  have hg:=GO l (a*10+(c.toNat - 48))
  have hv':bh (a*10+(c.toNat - 48)) l≤100000000000000000:=hv
  unfold am_
  rw[P5 hd,P4 (by omega),P4 (by omega),CU l _ h.2 hv']
  rfl
theorem MY {l:ae} (h:gl l=true):l.all cR=true:=by
 unfold gl at h
 simp only[P8] at h
 exact h.1.1
theorem Kg {u:Nat} (h:u≤1000000000000000):br_ 64 (R6 u) = .ok u:=by
 unfold br_
 rw[P4 El.1]
 have:=CU (R6 u) 0 (MY (xR u)) (by rw[pB]; omega)
 rw[pB] at this
 exact this
theorem Iv {u:Nat} (h:u≤1000000000000000):bP (R6 u)=((u:Int),true):=by
 obtain⟨y,l,hy,hd⟩:=zQ u
 have hd':48≤y.toNat∧y.toNat≤57:=by simpa[cR] using hd
 have hp:=Kg h
 unfold bP
 have:Y1 64 (R6 u) = .ok (u:Int):=by
  rw[hy] at hp ⊢
  unfold Y1
  simp only
  rw[P4 (by omega),hp]
  simp only
  rw[P4 (by omega),P4 (by omega),P4 (by omega)]
 rw[this]
theorem Iw {u:Nat} (h:u≤1000000000000000):bP (45 :: R6 u)=(-(u:Int),true):=by
 have hp:=Kg h
 unfold bP
 have:Y1 64 (45 :: R6 u) = .ok (-(u:Int)):=by
  unfold Y1
  simp only
  have h45:(45:UInt8).toNat=45:=rfl
  rw[P5 (.inr h45),hp]
  simp only
  rw[P4 (by omega),P4 (by omega),P5 h45]
 rw[this]
def cV (w:ae):aD :=
 if([39]:ae).isPrefixOf w=true then vT (ba (w.drop 1)) else
 if w=gm then vB (decide (w=fP)) else
 if w=fP then vB (decide (w=fP)) else
 if([35]:ae).isPrefixOf w=true then(if dy w=0 then v0 else vE (dy w)) else
 if w≠[] then vN (bP w).1 else v0
theorem wu {v:aD} {w:ae} (h:v.2.2.1.size≤9223372036854775807):((fe v).bind fun z2=>(if(!z2.1.1)=true then(some (((0,0,(⟨#[]⟩:P0),()),false,()),(()))) else((dU v).bind fun z3=>(if(!(P2 z3.1.1 == P2 (ba w)))=true then(some (((0,0,(⟨#[]⟩:P0),()),false,()),(()))) else(some ((v,true,()),(())))))))=some ((if bb v=true∧dh v=ba w then v else v0,decide (bb v=true∧dh v=ba w),()),()):=by
 rw[qG h]
 simp only[P1]
 cases ho:bb v with
 | false=>simp; rfl
 | true =>
  rw[t6 ho]
  simp only[P1,S1,P9,R0,kw,true_and]
  by_cases hv:dh v=ba w
  ·simp[hv]
  ·simp[hv]; rfl
theorem NZ {w:ae} (hc : ∀ v:aD,bb v=true→dh v=ba w→cV w=v):(if bb (cV w)=true∧dh (cV w)=ba w then cV w else v0)=(bH w).1∧decide (bb (cV w)=true∧dh (cV w)=ba w)=(bH w).2:=by
 by_cases h:bb (cV w)=true∧dh (cV w)=ba w
 ·have:=Iu h.1
  rw[h.2,dc] at this
  rw[P5 h,R5 h,this]
  exact⟨rfl,rfl⟩
 ·rw[P4 h,S3 h]
  cases h2:(bH w).2 with
  | false=>rw[LN h2]; exact⟨rfl,rfl⟩
  | true =>
   obtain⟨k1,k2⟩:=pE h2
   refine S0 ?_ h
   rw[hc _ k1 k2]
   exact⟨k1,k2⟩
theorem MZ {v:aD} (h:bb v=true):cV (lb (dh v))=v:=by
 rcases qL h with rfl | ⟨n,rfl,h0,h1⟩ | ⟨s,rfl⟩ | ⟨b,rfl⟩ | ⟨n,rfl,h0⟩
 ·rfl
 ·have e:dh (vN n)=fm n:=rfl
  rw[e]
  by_cases hn:n < 0
  ·rw[vA hn,dc]
   unfold cV
   rw[P4 (by simp),P4 (by unfold gm; simp),P4 (by unfold fP; simp),P4 (by simp),P5 (by simp),Iw (by omega)]
   congr 1
   simp only
   omega
  ·rw[show n=(n.toNat:Int) by omega,l8,dc]
   obtain⟨d1,d2,d3,d4,d5,d6⟩:=El (u:=n.toNat)
   have hp:=Iv (u:=n.toNat) (by omega)
   obtain⟨y,l,hy,hd⟩:=zQ n.toNat
   rw[hy] at d1 d2 d3 d4 d5 d6 hp ⊢
   unfold cV
   rw[P4 (by rw[ew]; simpa using d2),P4 d6,P4 d5,P4 (by rw[ew]; simpa using d3),P5 d1,hp]
 ·have e:lb (dh (vT s))=39 :: lb s:=by
   show lb ((⟨#[39]⟩:P0)++s)=_
   rw[←ic s,show(⟨#[39]⟩:P0)=ba [39] from rfl,mX,dc]
   simp
  rw[e]
  unfold cV
  rw[P5 (by simp)]
  simp only[U1,W3,ic]
 ·cases b <;> rfl
 ·have e:lb (dh (vE (n.val:Int)))=lb (cQ (n.val:Int)):=rfl
  rw[e]
  have h1 : ∀ n:Fin 6,1≤n.val→([39]:ae).isPrefixOf (lb (cQ (n.val:Int)))=false∧([35]:ae).isPrefixOf (lb (cQ (n.val:Int)))=true∧lb (cQ (n.val:Int))≠fP∧lb (cQ (n.val:Int))≠gm:=by decide +kernel
  obtain⟨a1,a2,a3,a4⟩:=h1 n h0
  unfold cV
  rw[P4 (by rw[a1]; decide),P4 a4,P4 a3,P5 a2,BU n h0,P4 (by omega)]
theorem rX {w:ae} {n:Int} (h0:0≤n) (h1:n≤5) {a b d e:Int} {c f:P0}:eD (ba w) n a b c d e f=eD (ba w) (n+1) a b c (if cQ n=ba w then 4 else d) (if cQ n=ba w then n else e) (if cQ n=ba w then eS else f):=by
 rw[pp,ay h1,nj h0 h1]
 simp only[P1,kw,Q0,BO]
 rw[wr (by omega) (by omega)]
 split <;> rfl
theorem AV {α:Type} (w:ae) (f:Int→α) (z:α) (hz:z=f 0):(if cQ 5=ba w then f 5 else if cQ 4=ba w then f 4 else if cQ 3=ba w then f 3 else if cQ 2=ba w then f 2 else if cQ 1=ba w then f 1 else z)=f (dy w):=by
 unfold dy
 subst hz
 repeat' split <;> first | rfl | skip
theorem OQ {w:ae}:eD (ba w) 1 0 0 eS 0 0 eS=some ((if bb (if dy w=0 then v0 else vE (dy w))=true∧dh (if dy w=0 then v0 else vE (dy w))=ba w then(if dy w=0 then v0 else vE (dy w)) else v0,decide (bb (if dy w=0 then v0 else vE (dy w))=true∧dh (if dy w=0 then v0 else vE (dy w))=ba w),()),()):=by
 rw[rX (by decide) (by decide),rX (by decide) (by decide),rX (by decide) (by decide),rX (by decide) (by decide),rX (by decide) (by decide),pp,aq (by decide)]
 have e1:=AV w (fun n=>if n=0 then(0:Int) else 4) 0 (by simp)
 have e2:=AV w (fun n=>n) 0 rfl
 have e3:=AV w (fun n=>eS) eS rfl
 simp only[show(1:Int)+1=2 from rfl,show(2:Int)+1=3 from rfl,show(3:Int)+1=4 from rfl,show(4:Int)+1=5 from rfl]
 simp only[show(5:Int)=0↔False by decide,show(4:Int)=0↔False by decide,show(3:Int)=0↔False by decide,show(2:Int)=0↔False by decide,show(1:Int)=0↔False by decide,R0] at e1
 rw[e1,e2,e3]
 have e:((if dy w=0 then(0:Int) else 4),dy w,eS,())=(if dy w=0 then v0 else vE (dy w)):=by
  by_cases h:dy w=0
  ·rw[P5 h,P5 h,h]
   rfl
  ·rw[P4 h,P4 h]
   rfl
 rw[e]
 exact wu (by split <;> (show eS.size≤_; decide))
theorem nq {w:ae} (hw:w.length≤281474976710656):gH (ba w)=some (((bH w).1,(bH w).2,()),()):=by
 obtain⟨p1,p2⟩:=NZ (w:=w) (fun v h1 h2=>by have:=MZ h1; rw[h2,dc] at this; exact this)
 have gu : ∀ v:aD,cV w=v→(some ((if bb v=true∧dh v=ba w then v else v0,decide (bb v=true∧dh v=ba w),()),()):Option ((aD×Bool×Unit)×Unit))=some (((bH w).1,(bH w).2,()),()):=by
  rintro v rfl
  rw[p1,p2]
 have hv:=cV.eq_def w
 have e1:(P2 (ba w) == P2 (⟨#[84,82,85,69]⟩:P0))=decide (w=fP):=cY (b:=fP)
 have e2:(P2 (ba w) == P2 (⟨#[70,65,76,83,69]⟩:P0))=decide (w=gm):=cY (b:=gm)
 have e0:(P2 (ba w) == P2 (⟨#[]⟩:P0))=decide (w=[]):=cY (b:=[])
 rw[CG,show(⟨#[39]⟩:P0)=ba [39] from rfl,qf w [39] (by omega),show(⟨#[35]⟩:P0)=ba [35] from rfl,mY w [35] (by omega),e0,e1,e2]
 simp only[P1,J5]
 cases h39:([39]:ae).isPrefixOf w with
 | true =>
  rw[P5 h39] at hv
  simp only[S2]
  refine(wu (v:=vT (ba (w.drop 1))) ?_).trans (gu _ hv)
  show(ba _).size≤_
  rw[aJ]
  simp
  omega
 | false =>
  rw[P4 (by rw[h39]; decide)] at hv
  simp only[P9,R0]
  by_cases hf:w=gm
  ·rw[P5 hf] at hv
   rw[ay hf]
   exact(wu (v:=vB (decide (w=fP))) (by show eS.size≤_; decide)).trans (gu _ hv)
  ·rw[P4 hf] at hv
   rw[aq hf]
   by_cases ht:w=fP
   ·rw[P5 ht] at hv
    rw[ay ht]
    exact(wu (v:=vB (decide (w=fP))) (by show eS.size≤_; decide)).trans (gu _ hv)
   ·rw[P4 ht] at hv
    rw[aq ht]
    cases h35:([35]:ae).isPrefixOf w with
    | true =>
     rw[P5 h35] at hv
     simp only[S2]
     exact OQ.trans (gu _ hv)
    | false =>
     rw[P4 (by rw[h35]; decide)] at hv
     simp only[P9,R0]
     by_cases he:w=[]
     ·rw[P4 (by simpa using he)] at hv
      simp only[he,U5,S1,P9,R0]
      rw[he] at hv gu
      exact(wu (v:=v0) (w:=[]) (by decide)).trans (gu _ hv)
     ·rw[P5 he] at hv
      simp only[he,V5,S8,S2,qK hw,P1,zD]
      exact(wu (v:=vN (bP w).1) (by show eS.size≤_; decide)).trans (gu _ hv)
def Mr (c:UInt8):Bool:=decide (c=32)
def bl (l:ae):ae:=l.dropWhile Mr
def aY (c:UInt8):Bool:=dH c || cR c || decide (c=36)
theorem N0:(fun c=>([32]:ae).contains c)=Mr:=funext fun c=>xQ (p:=fun c=>([32]:ae).contains c=Mr c) (by decide +kernel) c
theorem N1:(fun c=>([65,66,67,68,69,70,71,72,73,74,75,76,77,78,79,80,81,82,83,84,85,86,87,88,89,90,48,49,50,51,52,53,54,55,56,57,36]:ae).contains c)=aY:=funext fun c=>xQ (p:=fun c=>([65,66,67,68,69,70,71,72,73,74,75,76,77,78,79,80,81,82,83,84,85,86,87,88,89,90,48,49,50,51,52,53,54,55,56,57,36]:ae).contains c=aY c) (by decide +kernel) c
theorem zR (p:UInt8→Bool) : ∀ l:ae,(l.dropWhile p).dropWhile p=l.dropWhile p
 | []=>rfl
 | c :: l=>by
  cases h:p c with
  | true=>rw[ar_ h,zR p l]
  | false =>
   have h' : ¬p c=true:=by rw[h]; decide
   rw[V9 h',V9 h']
theorem cM (l:ae):bl (bl l)=bl l:=zR _ _
theorem ao (l:ae):bl l <:+ l:=bs_ _
theorem aA {a b:ae} (h:a <:+ b):a.length≤b.length:=h.length_le
theorem lB (l:ae) (b:Bool) (ns:List ab):eX (ba l) b ns=some ((),((ba (bl l),ns,b,()),())):=by
 rw[wG,show(⟨#[32]⟩:P0)=ba [32] from rfl,qJ _ _ (by decide +kernel),N0]
 rfl
def Ms:List ae:=[[60,62],[60,61],[62,61],[60],[62],[61],[38],[43],[45],[42],[47],[40],[41],[44],[58]]
def sg (l:ae):ae:=(Ms.find? fun p=>p.isPrefixOf l).getD []
theorem zS {l:ae} {b:Bool} {ns:List ab} (hl:l.length≤1000) {X:List P0} (hX:X.length≤100) : ∀(ys:List ae) (pre:List P0),X=pre++ys.map (fun x=>ba x)→ib (X.length:Int) (pre.length:Int) (ba l) b X ns=some ((ba ((ys.find? fun p=>p.isPrefixOf l).getD []),()),((ba l,ns,b,()),()))
 | [],pre,h=>by
  rw[mU,aq (bV (by simpa using h))]
  rfl
 | y :: ys,pre,h=>by
  have h':X=pre++ba y :: ys.map (fun x=>ba x):=by simpa using h
  have hd:S9 X (S6 (pre.length:Int)) (⟨#[]⟩:P0)=ba y:=by rw[h']; exact iW
  rw[mU,ay (bo h'),fL h',hd,mY _ _ (by omega)]
  simp only[P1,X8]
  cases hy:y.isPrefixOf l with
  | true=>rfl
  | false =>
   simp only[P9,R0]
   rw[aH h' (by omega)]
   exact zS hl hX ys (pre++[ba y]) (by rw[h']; simp)
theorem Em {l:ae} {b:Bool} {ns:List ab} (hl:l.length≤1000):ll (ba l) b ns=some ((ba (sg (bl l)),()),((ba (bl l),ns,b,()),())):=by
 rw[zs,lB]
 simp only[P1]
 have:=aA (ao l)
 exact zS (by omega) (by decide) Ms [] rfl
theorem En (l:ae):(sg l).isPrefixOf l=true:=by
 unfold sg
 cases h:Ms.find? fun p=>p.isPrefixOf l with
 | none=>simp
 | some p =>
  have:=List.find?_some h
  simpa using this
theorem wv {p l:ae} (h:p.isPrefixOf l=true):p.length≤l.length:=(Y8.1 h).length_le
theorem c8 {l w:ae} {b:Bool} {ns:List ab} (hl:l.length≤1000):bu (ba w) (ba l) b ns=some ((decide (sg (bl l)=w),()),((ba (if sg (bl l)=w then(bl l).drop w.length else bl l),ns,b,()),())):=by
 rw[zt,Em hl]
 simp only[P1,cY]
 by_cases h:sg (bl l)=w
 ·have:=wv (En (bl l))
  rw[h] at this
  simp only[h,U5,S1,P9,R0,S2,aJ]
  rw[eK this]
 ·simp[h]
def gO (y:UInt8) (a b:Bool):Int:=if y=60 then(if a=true then 7 else if b=true then 9 else 8) else if y=62 then(if b=true then 11 else 10) else if y=61 then 6 else if y=38 then 5 else if y=43 then 1 else if y=45 then 2 else if y=42 then 3 else if y=47 then 4 else 0
def gS (y:UInt8) (a b:Bool):ae:=if y=60 then(if a=true then [60,62] else if b=true then [60,61] else [60]) else if y=62 then(if b=true then [62,61] else [62]) else if y=61 then [61] else if y=38 then [38] else if y=43 then [43] else if y=45 then [45] else if y=42 then [42] else if y=47 then [47] else if y=40 then [40] else if y=41 then [41] else if y=44 then [44] else if y=58 then [58] else []
def dT (l:ae):Int:=match l with
 | []=>0
 | y :: t=>gO y (decide (t.head? = some 62)) (decide (t.head? = some 61))
def dn (k:Int):ae:=([[],[43],[45],[42],[47],[38],[61],[60,62],[60],[60,61],[62],[62,61]]:List ae).getD k.toNat []
theorem AW (y:UInt8) (t:ae):sg (y :: t)=gS y (decide (t.head? = some 62)) (decide (t.head? = some 61)):=by
 unfold sg Ms
 simp only[X8,List.find?_nil,ew,xP]
 generalize decide (t.head? = some 62)=a
 generalize decide (t.head? = some 61)=b
 have : ∀ a b:Bool,(Option.getD (match decide (y=60) && a with | true=>some [60,62] | false=>match decide (y=60) && b with | true=>some [60,61] | false=>match decide (y=62) && b with | true=>some [62,61] | false=>match decide (y=60) with | true=>some [60] | false=>match decide (y=62) with | true=>some [62] | false=>match decide (y=61) with | true=>some [61] | false=>match decide (y=38) with | true=>some [38] | false=>match decide (y=43) with | true=>some [43] | false=>match decide (y=45) with | true=>some [45] | false=>match decide (y=42) with | true=>some [42] | false=>match decide (y=47) with | true=>some [47] | false=>match decide (y=40) with | true=>some [40] | false=>match decide (y=41) with | true=>some [41] | false=>match decide (y=44) with | true=>some [44] | false=>match decide (y=58) with | true=>some [58] | false=>none) []:ae)=gS y a b :=
  xQ (p:=fun y => ∀ a b:Bool,(Option.getD (match decide (y=60) && a with | true=>some [60,62] | false=>match decide (y=60) && b with | true=>some [60,61] | false=>match decide (y=62) && b with | true=>some [62,61] | false=>match decide (y=60) with | true=>some [60] | false=>match decide (y=62) with | true=>some [62] | false=>match decide (y=61) with | true=>some [61] | false=>match decide (y=38) with | true=>some [38] | false=>match decide (y=43) with | true=>some [43] | false=>match decide (y=45) with | true=>some [45] | false=>match decide (y=42) with | true=>some [42] | false=>match decide (y=47) with | true=>some [47] | false=>match decide (y=40) with | true=>some [40] | false=>match decide (y=41) with | true=>some [41] | false=>match decide (y=44) with | true=>some [44] | false=>match decide (y=58) with | true=>some [58] | false=>none) []:ae)=gS y a b) (by decide +kernel) y
 exact this a b
theorem jF {c:UInt8} (hc:c=45∨c=40∨c=41∨c=44∨c=58) (l:ae):(sg l=[c])=(l.head? = some c):=by
 apply propext
 constructor
 ·intro h
  have:=En l
  rw[h,xO] at this
  exact of_decide_eq_true this
 ·intro h
  cases l with
  | nil=>cases h
  | cons y t =>
   simp only[W9,R8] at h
   subst h
   rw[AW]
   rcases hc with rfl | rfl | rfl | rfl | rfl <;> rfl
def N2 (s:ae):Int:=if dn 11=s then 11 else if dn 10=s then 10 else if dn 9=s then 9 else if dn 8=s then 8 else if dn 7=s then 7 else if dn 6=s then 6 else if dn 5=s then 5 else if dn 4=s then 4 else if dn 3=s then 3 else if dn 2=s then 2 else if dn 1=s then 1 else 0
theorem Eo (y:UInt8) : ∀ a b:Bool,N2 (gS y a b)=gO y a b∧(gO y a b≠0→gS y a b=dn (gO y a b))∧0≤gO y a b∧gO y a b≤11 :=
 xQ (p:=fun y => ∀ a b:Bool,N2 (gS y a b)=gO y a b∧(gO y a b≠0→gS y a b=dn (gO y a b))∧0≤gO y a b∧gO y a b≤11) (by decide +kernel) y
theorem N3 (l:ae):N2 (sg l)=dT l:=by
 cases l with
 | nil=>decide
 | cons y t =>
  rw[AW]
  exact(Eo y _ _).1
theorem to {l:ae} (h:dT l≠0):sg l=dn (dT l):=by
 cases l with
 | nil=>exact S0 rfl h
 | cons y t =>
  rw[AW]
  exact(Eo y _ _).2.1 h
theorem m5 (l:ae):0≤dT l∧dT l≤11:=by
 cases l with
 | nil=>decide
 | cons y t=>exact(Eo y _ _).2.2
theorem tq {k:Int} (h0:0≤k) (h1:k≤11):rB k=some ((ba (dn k),()),()):=by
 rw[Ib,iE h0 (by show k < 12; omega)]
 have : ∀ k:Fin 12,S9 ([(⟨#[]⟩:P0),(⟨#[43]⟩:P0),(⟨#[45]⟩:P0),(⟨#[42]⟩:P0),(⟨#[47]⟩:P0),(⟨#[38]⟩:P0),(⟨#[61]⟩:P0),(⟨#[60,62]⟩:P0),(⟨#[60]⟩:P0),(⟨#[60,61]⟩:P0),(⟨#[62]⟩:P0),(⟨#[62,61]⟩:P0)]:(List P0)) k.val (⟨#[]⟩:P0)=ba (dn (k.val:Int)):=by decide +kernel
 have h:=this ⟨k.toNat,by omega⟩
 simp only[X1 h0] at h
 rw[h]
theorem tr {k:Int} (h0:0≤k) (h1:k≤11):rt k=some ((ba (dn k),()),()):=by
 rw[HX,iE h0 (by show k < 12; omega)]
 have : ∀ k:Fin 12,S9 ([(⟨#[]⟩:P0),(⟨#[43]⟩:P0),(⟨#[45]⟩:P0),(⟨#[42]⟩:P0),(⟨#[47]⟩:P0),(⟨#[38]⟩:P0),(⟨#[61]⟩:P0),(⟨#[60,62]⟩:P0),(⟨#[60]⟩:P0),(⟨#[60,61]⟩:P0),(⟨#[62]⟩:P0),(⟨#[62,61]⟩:P0)]:(List P0)) k.val (⟨#[]⟩:P0)=ba (dn (k.val:Int)):=by decide +kernel
 have h:=this ⟨k.toNat,by omega⟩
 simp only[X1 h0] at h
 rw[h]
theorem BV {least deep left op k:Int} {l:ae} {b:Bool} {ns:List ab} (hl:l.length≤1000) (h0:0≤k) (h1:k≤11) :
  bS least deep left op k (ba l) b ns=bS least deep left (if dn k=sg (bl l) then k else op) (k+1) (ba (bl l)) b ns:=by
 rw[lw,ay h1,Em hl]
 simp only[P1]
 rw[tq h0 h1]
 simp only[P1,cY,Q0]
 rw[wr (by omega) (by omega)]
 by_cases h:sg (bl l)=dn k
 ·rw[P5 h,P5 h.symm]
 ·rw[P4 h,P4 (Ne.symm h)]
theorem xU {least deep left:Int} {l:ae} {b:Bool} {ns:List ab} (hl:l.length≤1000) :
  bS least deep left 0 1 (ba l) b ns=bS least deep left (dT (bl l)) 12 (ba (bl l)) b ns:=by
 have:=aA (ao l)
 have st : ∀(op k:Int),0≤k→k≤11→bS least deep left op k (ba (bl l)) b ns=bS least deep left (if dn k=sg (bl l) then k else op) (k+1) (ba (bl l)) b ns:=by
  intro op k h0 h1
  rw[BV (by omega) h0 h1,cM]
 rw[BV hl (by decide) (by decide),st _ (1+1) (by decide) (by decide),st _ (1+1+1) (by decide) (by decide),st _ (1+1+1+1) (by decide) (by decide),st _ (1+1+1+1+1) (by decide) (by decide),st _ (1+1+1+1+1+1) (by decide) (by decide),
  st _ (1+1+1+1+1+1+1) (by decide) (by decide),st _ (1+1+1+1+1+1+1+1) (by decide) (by decide),st _ (1+1+1+1+1+1+1+1+1) (by decide) (by decide),st _ (1+1+1+1+1+1+1+1+1+1) (by decide) (by decide),st _ (1+1+1+1+1+1+1+1+1+1+1) (by decide) (by decide)]
 rw[←N3 (bl l)]
 rfl
def bA (s l:ae):Int:=(s.length:Int) - (l.length:Int)
theorem kf {s l:ae} (h:l <:+ s) : ∃ pre,s=pre++l∧bA s l=(pre.length:Int):=by
 obtain⟨pre,h⟩:=h
 refine⟨pre,h.symm,?_⟩
 unfold bA
 rw[←h,P6]
 omega
theorem zT {s:ae} {b:Bool} {ns:List ab} (hs:s.length≤1000) : ∀(l:ae),l <:+ s→ia (ba s) (bA s l) b ns=some ((),((ba s,bA s (bl l),b,ns,()),()))
 | [],h=>by
  rw[mS,aq (by rw[aJ]; unfold bA; simp)]
  rfl
 | c :: l,h=>by
  obtain⟨pre,h1,h2⟩:=kf h
  have hl:pre.length < s.length:=by rw[h1]; simp
  rw[mS,h2,ay (by rw[aJ]; omega),fO h1]
  by_cases hc:c=32
  ·subst hc
   have hl':l <:+ s:=List.IsSuffix.trans (List.suffix_cons _ _) h
   rw[P5 (by rfl),wr (by omega) (by omega)]
   have e:(pre.length:Int)+1=bA s l:=by
    rw[←h2]
    unfold bA
    rw[Q1]
    omega
   rw[e,zT hs l hl']
   rfl
  ·have h0' : ¬((c.toNat:Int) == 32)=true:=by
    simp only[T7]
    intro e
    apply hc
    apply UInt8.toNat_inj.1
    show c.toNat=32
    omega
   rw[P4 h0',←h2]
   have:bl (c :: l)=c :: l:=V9 (by simp[Mr,hc])
   rw[this]
theorem Ep {s l:ae} {b:Bool} {ns:List ab} (hs:s.length≤1000) (h:l <:+ s):gd (ba s) (bA s l) b ns=some ((),((ba s,bA s (bl l),b,ns,()),())):=by
 rw[zm]
 exact zT hs l h
theorem ac {a b c:ae} (h:a <:+ b) (k:b <:+ c):a <:+ c:=List.IsSuffix.trans h k
theorem dS (n:Nat) (l:ae):l.drop n <:+ l:=List.drop_suffix n l
theorem fi {s l w:ae} {b:Bool} {ns:List ab} (hs:s.length≤1000) (hw:w.length≤1000) (h:l <:+ s) :
  cO (ba w) (ba s) (bA s l) b ns=some (((!b && w.isPrefixOf (bl l)),()),((ba s,bA s (if(!b && w.isPrefixOf (bl l))=true then(bl l).drop w.length else bl l),b,ns,()),())):=by
 have hb:=ac (ao l) h
 rw[FI,Ep hs h]
 simp only[P1]
 cases b with
 | true=>rfl
 | false =>
  simp only[P9,R0,S8,T3,aJ]
  generalize bl l=m at hb
  obtain⟨pre,h1,h2⟩:=kf hb
  have hl:pre.length+m.length=s.length:=by rw[h1]; simp
  rw[h2,wr (by omega) (by omega)]
  by_cases hm:w.length≤m.length
  ·rw[aq (by omega),show(pre.length:Int)+(w.length:Int)=((pre.length+w.length:Nat):Int) by omega,rU (by omega) (by omega),cY]
   have e:(s.take (pre.length+w.length)).drop pre.length=m.take w.length:=by
    rw[h1,ay_,bt_]
    simp
   rw[e]
   have e2:decide (m.take w.length=w)=w.isPrefixOf m:=by
    rw[V3,Q0,Y8,ch_]
    exact eq_comm
   rw[e2]
   cases w.isPrefixOf m with
   | true =>
    simp only[S1,P9,R0,S2]
    have e5:((pre.length+w.length:Nat):Int)=bA s (m.drop w.length):=by
     unfold bA
     rw[al_]
     omega
    rw[e5]
   | false =>
    simp only[S8,S2,P9,R0]
    rw[h2]
  ·rw[ay (by omega)]
   have e2:w.isPrefixOf m=false:=by
    rw[X3]
    intro hp
    exact hm (wv hp)
   rw[e2]
   simp only[P9,R0]
   rw[h2]
theorem tt {l:ae} {b:Bool} {ns:List ab} (hl:l.length≤1000):gf (ba l) b ns=some ((ba ((bl l).takeWhile aY),()),((ba ((bl l).dropWhile aY),ns,b,()),())):=by
 have:=aA (ao l)
 obtain⟨d1,d2,d3⟩:=vv aY (bl l)
 rw[zu,lB]
 simp only[P1]
 rw[qJ _ _ (by decide +kernel),N1]
 simp only[P1,aJ]
 rw[wr (by omega) (by omega),show((bl l).length:Int) - (((bl l).dropWhile aY).length:Int)=(((bl l).length - ((bl l).dropWhile aY).length:Nat):Int) by omega,zN (by omega),eK (by omega),d1,d2]
theorem BW {s pre l:ae} {w:Nat} {b:Bool} {ns:List ab} (h:s=pre++l) (hw:w≤pre.length) :
  (pU (ba s) (w:Int) (pre.length:Int) fun y6=>(some ((y6,()),((ba s,(pre.length:Int),b,ns,()),()))))=(some ((ba (pre.drop w),()),((ba s,bA s l,b,ns,()),())):Option ((P0×Unit)×(g8×Unit))):=by
 have hl:pre.length+l.length=s.length:=by rw[h]; simp
 rw[rU hw (by omega)]
 congr 3
 ·congr 1
  rw[h,cc_ rfl]
 ·unfold bA
  congr 3
  omega
theorem zU {s:ae} {b:Bool} {ns:List ab} (hs:s.length≤1000) {w:Nat} : ∀(l pre:ae),s=pre++l→w≤pre.length→cT (w:Int) (ba s) (pre.length:Int) b ns=some ((ba (pre.drop w++l.takeWhile aY),()),((ba s,bA s (l.dropWhile aY),b,ns,()),()))
 | [],pre,h,hw=>by
  have hl:pre.length=s.length:=by rw[h]; simp
  rw[pd,aq (by rw[aJ]; omega)]
  simpa using BW (b:=b) (ns:=ns) h hw
 | y :: l,pre,h,hw=>by
  have hl:pre.length < s.length:=by rw[h]; simp
  have ih:=zU (b:=b) (ns:=ns) hs (w:=w) l (pre++[y]) (by rw[h]; simp) (by rw[P6]; omega)
  rw[show((pre++[y]).length:Int)=(pre.length:Int)+1 by simp,List.drop_append_of_le_length hw] at ih
  have he:=BW (b:=b) (ns:=ns) h hw
  rw[pd,ay (by rw[aJ]; omega)]
  simp only[fO h]
  rw[wr (by omega) (by omega)]
  have h36:((y.toNat:Int) == 36)=decide (y=36):=by
   rw[V3,T7,Q0]
   constructor
   ·intro e
    apply UInt8.toNat_inj.1
    show y.toNat=36
    omega
   ·rintro rfl
    rfl
  rw[h36]
  cases hy:aY y with
  | true =>
   have e1:(y :: l).takeWhile aY=y :: l.takeWhile aY:=List.takeWhile_cons_of_pos hy
   have e2:(y :: l).dropWhile aY=l.dropWhile aY:=ar_ hy
   rw[e1,e2]
   have e3:pre.drop w++y :: l.takeWhile aY=pre.drop w++[y]++l.takeWhile aY:=by simp
   rw[e3,←ih]
   simp only[aY,dH,cR,Z6,P8,Q0] at hy
   by_cases c1:65≤y.toNat
   ·rw[ay (by omega)]
    by_cases c2:y.toNat≤90
    ·rw[ay (by omega)]
    ·rw[aq (by omega),ay (by omega),aq (by omega)]
     exfalso
     rcases hy with(hy | hy) | rfl
     ·omega
     ·omega
     ·exact S0 c1 (by decide)
   ·rw[aq (by omega)]
    by_cases c3:48≤y.toNat
    ·rw[ay (by omega)]
     by_cases c4:y.toNat≤57
     ·rw[ay (by omega)]
     ·rw[aq (by omega)]
      exfalso
      rcases hy with(hy | hy) | rfl
      ·omega
      ·omega
      ·exact S0 c3 (by decide)
    ·rw[aq (by omega)]
     have:y=36:=by
      rcases hy with(hy | hy) | hy
      ·omega
      ·omega
      ·exact hy
     rw[ay this]
  | false =>
   have e1:(y :: l).takeWhile aY=[]:=aq_ (by rw[hy]; decide)
   have e2:(y :: l).dropWhile aY=y :: l:=V9 (by rw[hy]; decide)
   rw[e1,e2,T8,←he]
   simp only[aY,dH,cR,Bool.or_eq_false_iff,Bool.and_eq_false_iff,decide_eq_false_iff_not] at hy
   obtain⟨⟨k1,k2⟩,k3⟩:=hy
   by_cases c1:65≤y.toNat
   ·rw[ay (by omega),aq (by omega),ay (by omega),aq (by omega),aq k3]
   ·rw[aq (by omega)]
    by_cases c3:48≤y.toNat
    ·rw[ay (by omega),aq (by omega),aq k3]
    ·rw[aq (by omega),aq k3]
theorem xV {s l:ae} {b:Bool} {ns:List ab} (hs:s.length≤1000) (h:l <:+ s):i7 (ba s) (bA s l) b ns=some ((ba (l.takeWhile aY),()),((ba s,bA s (l.dropWhile aY),b,ns,()),())):=by
 obtain⟨pre,h1,h2⟩:=kf h
 rw[Cq,h2,zU hs l pre h1 (Q6 _)]
 simp
def cJ (k:Int):Int:=if k≥6 then 1 else if k=5 then 2 else if k≥3 then 4 else 3
theorem qM (k:Int):oV k=some ((cJ k,()),()):=by
 rw[FN]
 unfold cJ
 simp only[Q0,T7]
 repeat' split
 all_goals first | rfl | omega
theorem BX {k:Int} (h0:1≤k) (h1:k≤11):u7 k=some ((cJ k,()),()):=by
 rw[J0]
 unfold cJ
 simp only[T7]
 repeat' split
 all_goals first | rfl | omega
abbrev pF:List Int:=[7,9,11,6,8,10,1,2,3,4,5]
def uc (L:Int) (m:ae) (k:Int):Bool:=decide (cJ k=L) && (dn k).isPrefixOf m
theorem AX (k:Int):(dn k).length≤2:=by
 unfold dn
 have : ∀ i:Nat,(([[],[43],[45],[42],[47],[38],[61],[60,62],[60],[60,61],[62],[62,61]]:List ae).getD i []).length≤2:=by
  intro i
  by_cases hi:i < 12
  ·have h : ∀ j:Fin 12,(([[],[43],[45],[42],[47],[38],[61],[60,62],[60],[60,61],[62],[62,61]]:List ae).getD j.val []).length≤2:=by decide
   exact h ⟨i,hi⟩
  ·rw[List.getD_eq_getElem?_getD,List.getElem?_eq_none (by simp; omega)]
   simp
 exact this _
section
variable {s:ae} {ns:List ab} {L:Int}
def tu (s l l':ae) (ns:List ab):Option Int→Option ((Int×Unit)×(g8×Unit))
 | some k=>some ((k,()),((ba s,bA s ((bl l).drop (dn k).length),false,ns,()),()))
 | none=>some ((0,()),((ba s,bA s l',false,ns,()),()))
theorem N4 {pre ys:List Int} {k:Int} (h:pF=pre++k :: ys):S9 pF (S6 (pre.length:Int)) 0=k:=by rw[h]; exact iW
theorem BZ {k:Int} (h:k∈pF):1≤k∧k≤11:=by
 have : ∀ k∈pF,1≤k∧k≤11:=by decide
 exact this k h
theorem vC (hs:s.length≤1000) : ∀(ys pre:List Int) (l:ae),pF=pre++ys→l <:+ s → ∃ l',(l'=l∨l'=bl l)∧iC L (pre.length:Int) (ba s) (bA s l) false pF ns=tu s l l' ns (ys.find? (uc L (bl l)))
 | [],pre,l,h,hl=>by
  refine⟨l,.inl rfl,?_⟩
  rw[p9,aq (bV h)]
  rfl
 | k :: ys,pre,l,h,hl=>by
  have hk:=BZ (k:=k) (by rw[h]; simp)
  rw[p9,ay (bo h),fL h,N4 h,qM]
  simp only[P1,X8,T7]
  by_cases hL:cJ k=L
  ·rw[P5 hL,fL h,tr (by omega) (by omega)]
   simp only[P1]
   have:=AX k
   rw[fi hs (by omega) hl]
   simp only[P1,S8,T3]
   cases hp:(dn k).isPrefixOf (bl l) with
   | true =>
    simp only[S2,uc,hL,U5,T3,hp]
    rw[fL h]
    exact⟨l,.inl rfl,rfl⟩
   | false =>
    simp only[P9,R0,uc,hL,U5,T3,hp]
    rw[aH h (by decide)]
    obtain⟨l',h1,h2⟩:=vC hs ys (pre++[k]) (bl l) (aI h) (ac (ao l) hl)
    rw[cM] at h1 h2
    refine⟨l',.inr (by simpa using h1),?_⟩
    rw[h2]
    unfold tu
    rw[cM]
  ·rw[P4 hL,aH h (by decide)]
   obtain⟨l',h1,h2⟩:=vC hs ys (pre++[k]) l (aI h) hl
   refine⟨l',h1,?_⟩
   rw[h2]
   simp[uc,hL]
theorem Er (hs:s.length≤1000) : ∀(ys pre:List Int) (l:ae),pF=pre++ys→l <:+ s → ∃ l',(l'=l∨l'=bl l)∧mv L (pre.length:Int) (ba s) (bA s l) false ns pF=tu s l l' ns (ys.find? (uc L (bl l)))
 | [],pre,l,h,hl=>by
  refine⟨l,.inl rfl,?_⟩
  rw[rJ,aq (bV h)]
  rfl
 | k :: ys,pre,l,h,hl=>by
  have hk:=BZ (k:=k) (by rw[h]; simp)
  rw[rJ,ay (bo h),fL h,N4 h,qM]
  simp only[P1,X8,T7]
  by_cases hL:cJ k=L
  ·rw[P5 hL,fL h,tr (by omega) (by omega)]
   simp only[P1]
   have:=AX k
   rw[fi hs (by omega) hl]
   simp only[P1,S8,T3]
   cases hp:(dn k).isPrefixOf (bl l) with
   | true =>
    simp only[S2,uc,hL,U5,T3,hp]
    rw[fL h]
    exact⟨l,.inl rfl,rfl⟩
   | false =>
    simp only[P9,R0,uc,hL,U5,T3,hp]
    rw[aH h (by decide)]
    obtain⟨l',h1,h2⟩:=vC (L:=L) (ns:=ns) hs ys (pre++[k]) (bl l) (aI h) (ac (ao l) hl)
    rw[cM] at h1 h2
    refine⟨l',.inr (by simpa using h1),?_⟩
    rw[h2]
    unfold tu
    rw[cM]
  ·rw[P4 hL,aH h (by decide)]
   obtain⟨l',h1,h2⟩:=Er hs ys (pre++[k]) l (aI h) hl
   refine⟨l',h1,?_⟩
   rw[h2]
   simp[uc,hL]
end
theorem zV {α:Type} {p q:α→Bool} : ∀ {l:List α},(∀ x∈l,p x=q x)→l.find? p=l.find? q
 | [],_=>rfl
 | x :: l,h=>by
  rw[X8,X8,h x (by simp),zV (fun y hy=>h y (List.mem_cons_of_mem _ hy))]
def pS (k:Int) (y:UInt8) (a b:Bool):Bool:=if k=7 then decide (y=60) && a else if k=9 then decide (y=60) && b else if k=11 then decide (y=62) && b else if k=6 then decide (y=61) else if k=8 then decide (y=60) else if k=10 then decide (y=62) else if k=1 then decide (y=43) else if k=2 then decide (y=45) else if k=3 then decide (y=42) else if k=4 then decide (y=47) else decide (y=38)
theorem OS (y:UInt8) (t:ae) : ∀ k∈pF,(dn k).isPrefixOf (y :: t)=pS k y (decide (t.head? = some 62)) (decide (t.head? = some 61)):=by
 intro k hk
 have:k=7∨k=9∨k=11∨k=6∨k=8∨k=10∨k=1∨k=2∨k=3∨k=4∨k=5:=by simpa using hk
 rcases this with rfl | rfl | rfl | rfl | rfl | rfl | rfl | rfl | rfl | rfl | rfl
 ·exact xP y t 60 62
 ·exact xP y t 60 61
 ·exact xP y t 62 61
 ·exact ew y t 61
 ·exact ew y t 60
 ·exact ew y t 62
 ·exact ew y t 43
 ·exact ew y t 45
 ·exact ew y t 42
 ·exact ew y t 47
 ·exact ew y t 38
def fS (L:Int) (y:UInt8) (a b:Bool):Prop:=pF.find? (fun k=>decide (cJ k=L) && pS k y a b)=if gO y a b≠0∧cJ (gO y a b)=L then some (gO y a b) else none
instance (L:Int) (y:UInt8) (a b:Bool):Decidable (fS L y a b):=by unfold fS; infer_instance
theorem N5 (y:UInt8) : ∀ a b:Bool,fS 1 y a b∧fS 2 y a b∧fS 3 y a b∧fS 4 y a b :=
 xQ (p:=fun y => ∀ a b:Bool,fS 1 y a b∧fS 2 y a b∧fS 3 y a b∧fS 4 y a b) (by decide +kernel) y
theorem LO {L:Int} (hL:L=1∨L=2∨L=3∨L=4) (m:ae):pF.find? (uc L m)=if dT m≠0∧cJ (dT m)=L then some (dT m) else none:=by
 cases m with
 | nil =>
  have : ∀ k∈pF,(dn k).isPrefixOf ([]:ae)=false:=by decide
  have h0:dT ([]:ae)=0:=rfl
  rw[h0,P4 (by simp),List.find?_eq_none]
  intro k hk
  unfold uc
  rw[this k hk,Bool.and_false]
  decide
 | cons y t =>
  have e:pF.find? (uc L (y :: t))=pF.find? (fun k=>decide (cJ k=L) && pS k y (decide (t.head? = some 62)) (decide (t.head? = some 61))):=zV fun k hk=>by
   unfold uc
   rw[OS y t k hk]
  rw[e]
  obtain⟨h1,h2,h3,h4⟩:=N5 y (decide (t.head? = some 62)) (decide (t.head? = some 61))
  rcases hL with rfl | rfl | rfl | rfl
  ·exact h1
  ·exact h2
  ·exact h3
  ·exact h4
theorem N6 {s l:ae} {ns:List ab} {L:Int} (hs:s.length≤1000) (hL:L=1∨L=2∨L=3∨L=4) (h:l <:+ s) :
  ∃ l',(l'=l∨l'=bl l)∧xC L (ba s) (bA s l) false ns=tu s l l' ns (if dT (bl l)≠0∧cJ (dT (bl l))=L then some (dT (bl l)) else none):=by
 rw[FO,←LO hL]
 exact Er hs pF [] l rfl h
theorem ww {x:ab} {l:ae} {b:Bool} {ns:List ab} (hn:ns.length≤60) :
  ∃ i,aR x (ba l) b ns=some ((i,()),((ba l,(if b=false∧ns.length < 60 then ns++[x] else ns),(b || decide (60≤ns.length)),()),()))∧(b=false→ns.length < 60→i=(ns.length:Int)):=by
 rw[AK]
 cases b with
 | true=>exact⟨_,rfl,fun h=>by cases h⟩
 | false =>
  simp only[P9,R0,true_and,bf_]
  by_cases h:ns.length < 60
  ·have e1:decide ((ns.length:Int)≥60)=false:=S3 (by omega)
   have e2:decide (60≤ns.length)=false:=S3 (by omega)
   rw[e1,e2,P5 h]
   simp only[S8,S2]
   have hl:(ns++[x]).length=ns.length+1:=by simp
   rw[bv (by simp only[P3]; omega),wr (by omega) (by omega)]
   exact⟨_,rfl,fun _ _=>by omega⟩
  ·have e1:decide ((ns.length:Int)≥60)=true:=R5 (by omega)
   have e2:decide (60≤ns.length)=true:=R5 (by omega)
   rw[e1,e2,P4 h]
   exact⟨_,rfl,fun _ h'=>S0 h' h⟩
theorem AY {x:ab} {s:ae} {a:Int} {b:Bool} {ns:List ab} (hn:ns.length≤1000) (hx:x.2.2.1.2.2.1.size≤9223372036854775807) :
  bM x (ba s) a b ns=some (((ns.length:Int),()),((ba s,a,(b || decide (60≤ns.length) || !dM x),ns++[x],()),())):=by
 rw[DX,bv (by simp only[P3]; omega)]
 have e:IntKind.i64.wrap (((ns++[x]).length:Int) - 1)=(ns.length:Int):=by
  rw[P6,P3,wr (by omega) (by omega)]
  omega
 rw[e,vq hx]
 simp only[P1]
 by_cases h:60≤ns.length
 ·rw[ay (by rw[P6,P3]; omega)]
  simp[h]
 ·rw[aq (by rw[P6,P3]; omega)]
  cases dM x <;> simp[h]
theorem AZ (c:UInt8) (t:ae) : ∀ pre:ae,c ∉ pre→Lib.indexByte (pre++c :: t) c=(pre.length:Int)
 | [],_=>by simp[Lib.indexByte]
 | b :: pre,h=>by
  simp only[R4,not_or] at h
  have hb : ¬b=c:=fun e=>h.1 e.symm
  have ih:=AZ c t pre h.2
  simp only[Z7,Lib.indexByte,ih]
  have : ¬((pre.length:Int) = -1):=by omega
  simp[hb,this]
theorem Es (c:UInt8) : ∀ pre:ae,c ∉ pre→Lib.indexByte pre c = -1
 | [],_=>rfl
 | b :: pre,h=>by
  simp only[R4,not_or] at h
  have hb : ¬b=c:=fun e=>h.1 e.symm
  simp only[Lib.indexByte,Es c pre h.2]
  simp[hb]
theorem M0 {c:UInt8} {pre t:ae} (h:c ∉ pre):Lib.cut (pre++c :: t) [c]=(pre,t,true):=by
 unfold Lib.cut
 rw[Lib.index_one,AZ c t pre h,P5 (by omega)]
 simp only[Int.toNat_natCast,P3,Prod.mk.injEq,and_true]
 refine⟨cc_ rfl,?_⟩
 have:pre++c :: t=(pre++[c])++t:=by simp
 rw[this,List.drop_left' (by simp)]
theorem LP {c:UInt8} {s:ae} (h:c ∉ s):Lib.cut s [c]=(s,[],false):=by
 unfold Lib.cut
 rw[Lib.index_one,Es c s h,P4 (by omega)]
theorem M1 {x c:ae} (hx:x.length < 4294967281):strings_Cut (ba x) (ba c)=some ((ba (Lib.cut x c).1,ba (Lib.cut x c).2.1,(Lib.cut x c).2.2,()),()):=by
 rw[AL]
 show(if(ba x).size < 4294967281 then some (((⟨(Lib.cut (lb (ba x)) (lb (ba c))).1.toArray⟩:P0),(⟨(Lib.cut (lb (ba x)) (lb (ba c))).2.1.toArray⟩:P0),(Lib.cut (lb (ba x)) (lb (ba c))).2.2,()),()) else none)=_
 rw[P5 (by rw[aJ]; exact hx),dc,dc]
theorem xW (c:UInt8) : ∀ s:ae,c∈s → ∃ pre t,s=pre++c :: t∧c ∉ pre
 | b :: s,h=>by
  by_cases hb:b=c
  ·exact⟨[],s,by rw[hb]; rfl,by simp⟩
  ·obtain⟨pre,t,h1,h2⟩:=xW c s (by rcases R4.1 h with e | e; exact S0 e.symm hb; exact e)
   exact⟨b :: pre,t,by rw[h1]; rfl,by simp only[R4,not_or]; exact⟨Ne.symm hb,h2⟩⟩
def qt:ae→Option (ae×ae)
 | []=>none
 | c :: l=>if c=34 then(match l with
   | []=>some ([],[])
   | d :: l'=>if d=34 then(qt l').map (fun p=>(34 :: p.1,p.2)) else some ([],d :: l'))
  else(qt l).map fun p=>(c :: p.1,p.2)
theorem xX {c:UInt8} {l:ae} (h:c≠34):qt (c :: l)=(qt l).map fun p=>(c :: p.1,p.2):=by
 rw[qt.eq_def]
 simp only[P4 h]
theorem Et:qt [34]=some ([],[]):=by
 rw[qt.eq_def]
 rfl
theorem Eu {l:ae}:qt (34 :: 34 :: l)=(qt l).map fun p=>(34 :: p.1,p.2):=by
 rw[qt.eq_def]
 rfl
theorem A0 {d:UInt8} {l:ae} (h:d≠34):qt (34 :: d :: l)=some ([],d :: l):=by
 rw[qt.eq_def]
 simp only[S2,P4 h]
theorem Ew (l:ae) : ∀ pre:ae,(34:UInt8) ∉ pre→qt (pre++l)=(qt l).map fun p=>(pre++p.1,p.2)
 | [],_=>by simp
 | b :: pre,h=>by
  simp only[R4,not_or] at h
  have hb : ¬b=34:=fun e=>h.1 e.symm
  rw[Z7,xX hb,Ew l pre h.2,Option.map_map]
  rfl
theorem M2 {s:ae} (h:(34:UInt8) ∉ s):qt s=none:=by
 have:=Ew [] s h
 rw[T8] at this
 rw[this]
 rfl
theorem Kh : ∀(l t r:ae),qt l=some (t,r)→r <:+ l∧t.length≤l.length∧r.length < l.length:=by
 intro l
 induction hn:l.length using Nat.strongRecOn generalizing l with
 | ind n ih =>
  intro t r h
  subst hn
  cases l with
  | nil=>cases h
  | cons c l =>
   by_cases hc:c=34
   ·subst hc
    cases l with
    | nil =>
     rw[Et] at h
     cases h
     exact⟨⟨[34],rfl⟩,by simp,by simp⟩
    | cons d l' =>
     by_cases hd:d=34
     ·subst hd
      rw[Eu,V0] at h
      obtain⟨⟨t',r'⟩,h1,h2⟩:=h
      cases h2
      obtain⟨k1,k2,k3⟩:=ih l'.length (by simp only[Q1]; omega) l' rfl t' r' h1
      refine⟨ac k1 ⟨[34,34],rfl⟩,?_,?_⟩
      ·simp only[Q1]; omega
      ·simp only[Q1]; omega
     ·rw[A0 hd] at h
      cases h
      exact⟨⟨[34],rfl⟩,by simp,by simp⟩
   ·rw[xX hc,V0] at h
    obtain⟨⟨t',r'⟩,h1,h2⟩:=h
    cases h2
    obtain⟨k1,k2,k3⟩:=ih l.length (by simp) l rfl t' r' h1
    refine⟨ac k1 ⟨[c],rfl⟩,?_,?_⟩
    ·simp only[Q1]; omega
    ·simp only[Q1]; omega
abbrev nC (v:aD):ab:=(1,0,v,((0,0,()),false,false,()),((0,0,()),false,false,()),([]:(List Int)),())
noncomputable def iQ (out:ae) (r:P0) (b:Bool) (ns:List ab):Option (ae×ae)→Option ((Int×Unit)×(lV×Unit))
 | none=>some ((-1,()),((r,ns,true,()),()))
 | some p=>bG (2,0,ba (out++p.1),()) (ba p.2) b ns
theorem wx {F:Option ((Int×Unit)×(lV×Unit))}:(F.bind fun z3=>(some ((z3.1.1,()),(z3.2.1,()))))=F:=by
 cases F with
 | none=>rfl
 | some z=>rfl
theorem eE {F:Option ((Int×Unit)×(g8×Unit))}:(F.bind fun z3=>(some ((z3.1.1,()),(z3.2.1,()))))=F:=by
 cases F with
 | none=>rfl
 | some z=>rfl
theorem Ex {r:P0} {b:Bool} {ns:List ab} : ∀(x out:ae),out.length+x.length≤1000→f7 (ba out) (ba x) r b ns=iQ out r b ns (qt x):=by
 intro x
 induction hn:x.length using Nat.strongRecOn generalizing x with
 | ind n ih =>
  intro out hl
  rw[th,show(⟨#[34]⟩:P0)=ba [34] from rfl,M1 (by omega)]
  simp only[P1]
  by_cases hm:(34:UInt8)∈x
  ·obtain⟨pre,t,h1,h2⟩:=xW 34 x hm
   have hx:x.length=pre.length+t.length+1:=by rw[h1]; simp; omega
   rw[h1,M0 h2,Ew _ pre h2]
   simp only[S1,P9,R0]
   rw[bm (by omega),mY t [34] (by omega)]
   simp only[P1,wx]
   cases t with
   | nil =>
    rw[Et,show([34]:ae).isPrefixOf ([]:ae)=false from rfl]
    simp[iQ]
   | cons d l' =>
    by_cases hd:d=34
    ·subst hd
     rw[Q1] at hx
     have e1:([34]:ae).isPrefixOf (34 :: l')=true:=by rw[ew]; rfl
     rw[e1]
     simp only[S1,P9,R0]
     rw[bm (by simp only[P6,P3]; omega),show(1:Int)=((1:Nat):Int) from rfl,eK (by simp)]
     simp only[U1,W3]
     rw[ih l'.length (by omega) l' rfl (out++pre++[34]) (by simp only[P6,P3]; omega)]
     rw[Eu]
     cases qt l' with
     | none=>rfl
     | some p=>simp[iQ]
    ·have e1:([34]:ae).isPrefixOf (d :: l')=false:=by rw[ew]; simp[hd]
     rw[e1]
     simp only[S8,S2]
     rw[A0 hd]
     simp[iQ]
  ·rw[LP hm,M2 hm]
   rfl
theorem zW {l:ae} {b:Bool} {ns:List ab} (hl:l.length≤900):ge (ba (34 :: l)) b ns=iQ [] (ba (34 :: l)) b ns (qt l):=by
 rw[wH,show(1:Int)=((1:Nat):Int) from rfl,eK (by simp)]
 exact Ex l [] (by simp; omega)
noncomputable def sQ (acc s:ae) (b:Bool) (ns:List ab):Option (ae×ae)→Option ((Int×Unit)×(g8×Unit))
 | none=>some ((0,()),((ba s,bA s [],true,ns,()),()))
 | some p=>bM (nC (2,0,ba (acc++p.1),())) (ba s) (bA s p.2) b ns
theorem Ix {s:ae} {b:Bool} {ns:List ab} (hs:s.length≤900) : ∀(l acc:ae),l <:+ s→acc.length+l.length≤1000→gW (ba acc) (ba s) (bA s l) b ns=sQ acc s b ns (qt l):=by
 intro l
 induction hn:l.length using Nat.strongRecOn generalizing l with
 | ind n ih =>
  intro acc h ha
  subst hn
  rw[xK]
  cases l with
  | nil =>
   rw[aq (by rw[aJ]; unfold bA; simp)]
   rfl
  | cons c l =>
   obtain⟨pre,h1,h2⟩:=kf h
   have hl:pre.length+l.length+1=s.length:=by rw[h1]; simp; omega
   rw[Q1] at ha
   have h':l <:+ s:=ac ⟨[c],rfl⟩ h
   have e1:(pre.length:Int)+1=bA s l:=by
    unfold bA
    omega
   rw[h2,ay (by rw[aJ]; omega),fO h1,wr (by omega) (by omega)]
   by_cases hc:c=34
   ·subst hc
    have e34:(((34:UInt8).toNat:Int) != 34)=false:=rfl
    rw[e34,e1]
    simp only[P9,R0,eE]
    cases l with
    | nil =>
     rw[Et,ay (by rw[aJ]; unfold bA; simp)]
     simp[sQ]
    | cons d l' =>
     obtain⟨xP,k1,k2⟩:=kf h'
     have hl2:xP.length+l'.length+1=s.length:=by rw[k1]; simp; omega
     rw[Q1] at ha
     have h'':l' <:+ s:=ac ⟨[d],rfl⟩ h'
     have e2:(xP.length:Int)+1=bA s l':=by
      unfold bA
      omega
     rw[k2,aq (by rw[aJ]; omega),fO k1]
     by_cases hd:d=34
     ·subst hd
      rw[e34,Eu]
      simp only[P9,R0]
      rw[show(⟨#[34]⟩:P0)=ba [34] from rfl,bm (by simp only[P3]; omega),wr (by omega) (by omega),e2,ih l'.length (by simp only[Q1]; omega) l' rfl (acc++[34]) h'' (by simp only[P6,P3]; omega)]
      cases qt l' with
      | none=>rfl
      | some p=>simp[sQ]
     ·have hd':((d.toNat:Int) != 34)=true:=by
       simp only[bne_iff_ne,ne_eq]
       intro e
       apply hd
       apply UInt8.toNat_inj.1
       show d.toNat=34
       omega
      rw[hd',A0 hd]
      simp only[S2]
      rw[←k2]
      simp[sQ]
   ·have hc':((c.toNat:Int) != 34)=true:=by
     simp only[bne_iff_ne,ne_eq]
     intro e
     apply hc
     apply UInt8.toNat_inj.1
     show c.toNat=34
     omega
    rw[hc']
    simp only[S2]
    rw[show(pre.length:Int)+1=((pre.length+1:Nat):Int) by omega,rU (by omega) (by omega)]
    have e3:(s.take (pre.length+1)).drop pre.length=[c]:=by
     rw[h1,ay_,bt_]
     simp
    rw[e3,bm (by simp only[P3]; omega),show((pre.length+1:Nat):Int)=bA s l by omega,ih l.length (by simp) l rfl (acc++[c]) h' (by simp only[P6,P3]; omega)]
    rw[xX hc]
    cases qt l with
    | none=>rfl
    | some p=>simp[sQ]
theorem LQ {s l:ae} {b:Bool} {ns:List ab} (hs:s.length≤900) (h:l <:+ s):sT (ba s) (bA s l) b ns=sQ [] s b ns (qt l):=by
 rw[Cp]
 have:=aA h
 exact Ix hs l [] h (by simp; omega)
def kF (n:Int):ae:=(lb (cQ n)).drop 1
abbrev rY:List Int:=[1,2,3,4,5]
def rZ (l:ae) (n:Int):Bool:=(kF n).isPrefixOf l
theorem Ki {pre ys:List Int} {k:Int} (h:rY=pre++k :: ys):k=(pre.length:Int)+1∧1≤k∧k≤5∧cQ k=ba (35 :: kF k)∧(kF k).length≤10:=by
 have h1:rY[pre.length]? = some k:=by rw[h]; simp
 have hl:pre.length < 5:=by
  have:(rY).length=5:=rfl
  have h2:=Q3 Q2 h
  simp at h2
  omega
 have : ∀ i:Fin 5,∀ k,rY[i.val]? = some k→k=(i.val:Int)+1:=by
  intro i k h
  have : ∀ i:Fin 5,rY[i.val]? = some ((i.val:Int)+1):=by decide
  rw[this i] at h
  exact(U9 h).symm
 have e:=this ⟨pre.length,hl⟩ k h1
 simp only at e
 have f : ∀ i:Fin 5,cQ ((i.val:Int)+1)=ba (35 :: kF ((i.val:Int)+1))∧(kF ((i.val:Int)+1)).length≤10:=by decide +kernel
 have:=f ⟨pre.length,hl⟩
 simp only at this
 rw[←e] at this
 exact⟨e,by omega,by omega,this.1,this.2⟩
theorem B0 {deep:Int} {l:ae} {b:Bool} {ns:List ab} (hl:l.length≤900) : ∀(ys pre:List Int),rY=pre++ys→cG deep ((pre.length:Int)+1) (ba (35 :: l)) b ns=match ys.find? (rZ l) with
  | some n=>bG (vE n) (ba (l.drop (kF n).length)) b ns
  | none=>cG deep 6 (ba (35 :: l)) b ns
 | [],pre,h=>by
  have:pre.length=5:=by
   rw[T8] at h
   rw[←h]
   rfl
  rw[this]
  rfl
 | k :: ys,pre,h=>by
  obtain⟨e1,e2,e3,e4,e5⟩:=Ki h
  rw[←e1,mV,ay e3,nj (by omega) e3]
  simp only[P1]
  rw[e4,qf _ _ (by rw[Q1]; omega)]
  simp only[P1,X8]
  have e6:(35 :: kF k:ae).isPrefixOf (35 :: l)=rZ l k:=by simp[rZ]
  rw[e6]
  cases hp:rZ l k with
  | true =>
   simp only[S2,BO,P1,wx,Q1,U1]
  | false =>
   simp only[P9,R0]
   rw[wr (by omega) (by omega)]
   have:=B0 (deep:=deep) (b:=b) (ns:=ns) hl ys (pre++[k]) (aI h)
   rw[P6,P3] at this
   rw[show k+1=((pre.length+1:Nat):Int)+1 by omega]
   exact this
theorem B1 {s l:ae} {b:Bool} {ns:List ab} (hs:s.length≤900) (hl:l <:+ s) : ∀(ys pre:List Int),rY=pre++ys→fy ((pre.length:Int)+1) (ba s) (bA s l) b ns=match ys.find? (rZ l) with
  | some n=>bM (nC (vE n)) (ba s) (bA s (l.drop (kF n).length)) b ns
  | none=>some ((0,()),((ba s,bA s l,true,ns,()),()))
 | [],pre,h=>by
  have:pre.length=5:=by
   rw[T8] at h
   rw[←h]
   rfl
  rw[this,pf,aq (by decide)]
  rfl
 | k :: ys,pre,h=>by
  obtain⟨e1,e2,e3,e4,e5⟩:=Ki h
  obtain⟨q,h1,h2⟩:=kf hl
  have hq:q.length+l.length=s.length:=by rw[h1]; simp
  rw[←e1,pf,ay e3,tl (by omega) e3]
  simp only[P1]
  rw[e4,show(1:Int)=((1:Nat):Int) from rfl,eK (by simp)]
  simp only[U1,W3,aJ,X8]
  have ih:=B1 (b:=b) (ns:=ns) hs hl ys (pre++[k]) (aI h)
  rw[P6,P3,show((pre.length+1:Nat):Int)+1=k+1 by omega] at ih
  have hw:IntKind.i64.wrap (k+((1:Nat):Int))=k+1:=wr (by omega) (by omega)
  rw[hw,h2,wr (by omega) (by omega)]
  by_cases hm:(kF k).length≤l.length
  ·rw[ay (by omega),show(q.length:Int)+((kF k).length:Int)=((q.length+(kF k).length:Nat):Int) by omega,rU (by omega) (by omega),cY]
   have e:(s.take (q.length+(kF k).length)).drop q.length=l.take (kF k).length:=by
    rw[h1,ay_,bt_]
    simp
   have e7:decide (l.take (kF k).length=kF k)=rZ l k:=by
    unfold rZ
    rw[V3,Q0,Y8,ch_]
    exact eq_comm
   rw[e,e7]
   cases hp:rZ l k with
   | true =>
    simp only[S2,F6,P1,eE]
    congr 1
    unfold bA
    rw[al_]
    omega
   | false =>
    simp only[P9,R0]
    rw[←h2]
    exact ih
  ·rw[aq (by omega)]
   have hp:rZ l k=false:=by
    rw[X3]
    intro hp
    exact hm (wv hp)
   rw[hp,←h2]
   exact ih
def ek (k:Int):ae:=([[],[83,85,77],[77,73,78],[77,65,88],[67,79,85,78,84],[73,70],[65,78,68],[79,82],[78,79,84],[65,66,83],[76,69,78]]:List ae).getD k.toNat []
abbrev jG:List Int:=[1,2,3,4,5,6,7,8,9,10]
theorem Kj (k:Fin 11):S9 ([(⟨#[]⟩:P0),(⟨#[83,85,77]⟩:P0),(⟨#[77,73,78]⟩:P0),(⟨#[77,65,88]⟩:P0),(⟨#[67,79,85,78,84]⟩:P0),(⟨#[73,70]⟩:P0),(⟨#[65,78,68]⟩:P0),(⟨#[79,82]⟩:P0),(⟨#[78,79,84]⟩:P0),(⟨#[65,66,83]⟩:P0),(⟨#[76,69,78]⟩:P0)]:(List P0)) k.val (⟨#[]⟩:P0)=ba (ek (k.val:Int)):=by
 revert k
 decide +kernel
theorem Ey {k:Int} (h0:0≤k) (h1:k≤10):CT k=some ((ba (ek k),()),()):=by
 rw[LF,iE h0 (by show k < 11; omega)]
 have h:=Kj ⟨k.toNat,by omega⟩
 simp only[X1 h0] at h
 rw[h]
theorem zX {k:Int} (h0:0≤k) (h1:k≤10):wk k=some ((ba (ek k),()),()):=by
 rw[Ia,iE h0 (by show k < 11; omega)]
 have h:=Kj ⟨k.toNat,by omega⟩
 simp only[X1 h0] at h
 rw[h]
theorem Kk {pre ys:List Int} {k:Int} (h:jG=pre++k :: ys):k=(pre.length:Int)+1∧1≤k∧k≤10:=by
 have h1:jG[pre.length]? = some k:=by rw[h]; simp
 have hl:pre.length < 10:=by
  have h2:=Q3 Q2 h
  simp at h2
  omega
 have : ∀ i:Fin 10,jG[i.val]? = some ((i.val:Int)+1):=by decide
 rw[this ⟨pre.length,hl⟩] at h1
 have e:=(U9 h1).symm
 simp only at e
 exact⟨e,by omega,by omega⟩
theorem Ez {deep:Int} {w l:ae} {b:Bool} {ns:List ab} : ∀(ys pre:List Int),jG=pre++ys→cP deep (ba w) ((pre.length:Int)+1) (ba l) b ns=match ys.find? (fun k=>decide (ek k=w)) with
  | some k=>fg k deep (ba l) b ns
  | none=>some ((-1,()),((ba l,ns,true,()),()))
 | [],pre,h=>by
  have:pre.length=10:=by
   rw[T8] at h
   rw[←h]
   rfl
  rw[this,lH,aq (by decide)]
  rfl
 | k :: ys,pre,h=>by
  obtain⟨e1,e2,e3⟩:=Kk h
  rw[←e1,lH,ay e3,zX (by omega) e3]
  simp only[P1,cY,X8,wx]
  by_cases hp:ek k=w
  ·rw[ay hp.symm]
   simp[hp]
  ·rw[aq (Ne.symm hp),wr (by omega) (by omega)]
   have:=Ez (deep:=deep) (w:=w) (l:=l) (b:=b) (ns:=ns) ys (pre++[k]) (aI h)
   rw[P6,P3,show((pre.length+1:Nat):Int)+1=k+1 by omega] at this
   rw[this]
   simp[hp]
noncomputable def ma (w s:ae) (a:Int) (b:Bool) (ns:List ab):Option ((Int×Unit)×(g8×Unit)) :=
 if(bH w).2=true∧w≠[] then bM (nC (bH w).1) (ba s) a b ns
 else if(cg w).2=true then bM (2,0,(0,0,(⟨#[]⟩:P0),()),(cg w).1,((0,0,()),false,false,()),([]:(List Int)),()) (ba s) a b ns
 else some ((0,()),((ba s,a,true,ns,()),()))
theorem Iy {w s:ae} {a:Int} {b:Bool} {ns:List ab} (hw:w.length≤1000):dF (ba w) 11 (ba s) a b ns=ma w s a b ns:=by
 rw[pg,aq (by decide),ua (by omega),np (by omega)]
 simp only[P1,eE]
 have e0:(P2 (ba w) == P2 (⟨#[]⟩:P0))=decide (w=[]):=cY (b:=[])
 rw[e0]
 unfold ma
 cases (bH w).2 <;> by_cases hw0:w=[] <;> cases (cg w).2 <;> simp[hw0]
theorem EA {w s:ae} {ns:List ab} (hw:w.length≤1000) (hs:s.length≤900) : ∀(ys pre:List Int) (l:ae),jG=pre++ys→l <:+ s → ∃ l',(l'=l∨l'=bl l)∧dF (ba w) ((pre.length:Int)+1) (ba s) (bA s l) false ns=match ys.find? (fun k=>decide (ek k=w) && ([40]:ae).isPrefixOf (bl l)) with
  | some k=>sU k (ba s) (bA s ((bl l).drop 1)) false ns
  | none=>ma w s (bA s l') false ns
 | [],pre,l,h,hl=>by
  have:pre.length=10:=by
   rw[T8] at h
   rw[←h]
   rfl
  refine⟨l,.inl rfl,?_⟩
  rw[this]
  exact Iy hw
 | k :: ys,pre,l,h,hl=>by
  obtain⟨e1,e2,e3⟩:=Kk h
  have ih:=fun l' (hl':l' <:+ s)=>EA (ns:=ns) hw hs ys (pre++[k]) l' (aI h) hl'
  rw[P6,P3,show((pre.length+1:Nat):Int)+1=k+1 by omega] at ih
  rw[←e1,pg,ay e3,Ey (by omega) e3]
  simp only[P1,cY,X8,eE]
  by_cases hp:ek k=w
  ·rw[ay hp,show(⟨#[40]⟩:P0)=ba [40] from rfl,fi (by omega) (by decide) hl]
   simp only[P1,S8,T3,hp,U5]
   cases hq:([40]:ae).isPrefixOf (bl l) with
   | true=>exact⟨l,.inl rfl,rfl⟩
   | false =>
    simp only[P9,R0]
    rw[wr (by omega) (by omega)]
    obtain⟨l',h1,h2⟩:=ih (bl l) (ac (ao l) hl)
    rw[cM] at h1 h2
    refine⟨l',.inr (by simpa using h1),?_⟩
    rw[h2,hq]
  ·rw[aq hp,wr (by omega) (by omega)]
   obtain⟨l',h1,h2⟩:=ih l hl
   refine⟨l',h1,?_⟩
   rw[h2]
   simp[hp]
theorem iH (p:UInt8→Bool) (l:ae):(l.takeWhile p).length≤l.length:=(List.takeWhile_prefix p).length_le
abbrev nP (p:b8):ab:=(2,0,(0,0,(⟨#[]⟩:P0),()),p,((0,0,()),false,false,()),([]:(List Int)),())
abbrev nA (p q:b8):ab:=(3,0,(0,0,(⟨#[]⟩:P0),()),p,q,([]:(List Int)),())
noncomputable def fj (deep:Int) (w r:ae) (b:Bool) (ns:List ab):Option ((Int×Unit)×(lV×Unit)) :=
 if(bH w).2=true∧((bH w).1.1=1∨(bH w).1.1=3) then bG (bH w).1 (ba r) b ns
 else if(cg w).2=true then aR (nP (cg w).1) (ba r) b ns
 else match jG.find? (fun k=>decide (ek k=w)) with
  | some k=>fg k deep (ba r) b ns
  | none=>some ((-1,()),((ba r,ns,true,()),()))
theorem fQ {F:Option ((Int×Unit)×(lV×Unit))}:(F.bind fun z3=>(some ((z3.1.1,()),(z3.2.1,()))))=F:=wx
theorem Kl {deep:Int} {w l:ae} {b:Bool} {ns:List ab}:cP deep (ba w) 1 (ba l) b ns=match jG.find? (fun k=>decide (ek k=w)) with
  | some k=>fg k deep (ba l) b ns
  | none=>some ((-1,()),((ba l,ns,true,()),())):=Ez jG [] rfl
theorem OT {deep:Int} {l:ae} {b:Bool} {ns:List ab} (hl:l.length≤900):cG deep 6 (ba l) b ns=fj deep ((bl l).takeWhile aY) ((bl l).dropWhile aY) b ns:=by
 have h1:=aA (ao l)
 have h2:((bl l).takeWhile aY).length≤(bl l).length:=iH aY (bl l)
 rw[mV,aq (by decide),tt (by omega)]
 simp only[P1]
 rw[nq (by omega),jU (by omega)]
 simp only[P1,fQ,Kl]
 unfold fj
 cases (bH ((bl l).takeWhile aY)).2 with
 | false=>simp
 | true =>
  by_cases k1:(bH ((bl l).takeWhile aY)).1.1=1
  ·simp[k1]
  ·by_cases k3:(bH ((bl l).takeWhile aY)).1.1=3
   ·simp[k3]
   ·simp[k1,k3]
theorem EB {deep:Int} {l:ae} {b:Bool} {ns:List ab} (hl:l.length≤900):ln deep (ba l) b ns =
  if(bl l).head? = some 34 then ge (ba (bl l)) b ns
  else if(bl l).head? = some 35 then cG deep 1 (ba (bl l)) b ns
  else if(bl l).head? = some 40 then((bw 1 (IntKind.i64.wrap (deep+1)) (ba ((bl l).drop 1)) b ns).bind fun z6=>(if z6.2.1.2.2.1=true then(some ((z6.1.1,()),((z6.2.1.1,z6.2.1.2.1,true,()),()))) else((bu (⟨#[41]⟩:P0) z6.2.1.1 z6.2.1.2.2.1 z6.2.1.2.1).bind fun z7=>(some ((z6.1.1,()),((z7.2.1.1,z7.2.1.2.1,(!z7.1.1),()),()))))))
  else fj deep ((bl l).takeWhile aY) ((bl l).dropWhile aY) b ns:=by
 have h1:=aA (ao l)
 have h2:((bl l).takeWhile aY).length≤(bl l).length:=iH aY (bl l)
 rw[zv,lB]
 simp only[P1]
 rw[show(⟨#[34]⟩:P0)=ba [34] from rfl,mY _ _ (by omega),show(⟨#[35]⟩:P0)=ba [35] from rfl,mY _ _ (by omega),show(⟨#[40]⟩:P0)=ba [40] from rfl,c8 (by omega)]
 simp only[P1,fQ,xO,cM,jF (c:=40) (.inr (.inl rfl)),Q0,P3]
 by_cases c1:(bl l).head? = some 34
 ·rw[P5 c1,P5 c1]
 ·rw[P4 c1,P4 c1]
  by_cases c2:(bl l).head? = some 35
  ·rw[P5 c2,P5 c2]
  ·rw[P4 c2,P4 c2]
   by_cases c3:(bl l).head? = some 40
   ·rw[P5 c3,P5 c3,P5 c3]
   ·rw[P4 c3,P4 c3,P4 c3,tt (by omega),cM]
    simp only[P1]
    rw[nq (by omega),jU (by omega)]
    simp only[P1,fQ,Kl]
    unfold fj
    cases (bH ((bl l).takeWhile aY)).2 with
    | false=>simp
    | true =>
     by_cases k1:(bH ((bl l).takeWhile aY)).1.1=1
     ·simp[k1]
     ·by_cases k3:(bH ((bl l).takeWhile aY)).1.1=3
      ·simp[k3]
      ·simp[k1,k3]
def B2 (m:ae):Bool:=(cg (m.takeWhile aY)).2 && decide ((bl (m.dropWhile aY)).head? = some 58)
def gy (m:ae):ae:=bl ((bl (m.dropWhile aY)).drop 1)
theorem EC {l:ae} {b:Bool} {ns:List ab} (hl:l.length≤900):gI (ba l) b ns =
  if B2 (bl l)=true then some ((nA (cg ((bl l).takeWhile aY)).1 (cg ((gy (bl l)).takeWhile aY)).1,true,()),((ba ((gy (bl l)).dropWhile aY),ns,(b || !(cg ((gy (bl l)).takeWhile aY)).2),()),()))
  else some (((0,0,(0,0,(⟨#[]⟩:P0),()),((0,0,()),false,false,()),((0,0,()),false,false,()),([]:(List Int)),()),false,()),((ba l,ns,b,()),())):=by
 have h1:=aA (ao l)
 have h2:((bl l).takeWhile aY).length≤(bl l).length:=iH aY (bl l)
 have h3:=BT aY (bl l)
 have h4:=aA (ao ((bl l).dropWhile aY))
 have h5:((bl ((bl l).dropWhile aY)).drop 1).length≤(bl ((bl l).dropWhile aY)).length:=aA (dS 1 _)
 have h6:=aA (ao ((bl ((bl l).dropWhile aY)).drop 1))
 have h7:((gy (bl l)).takeWhile aY).length≤(gy (bl l)).length:=iH aY _
 have h8:(gy (bl l)).length≤((bl ((bl l).dropWhile aY)).drop 1).length:=h6
 rw[uj,tt (by omega)]
 simp only[P1]
 rw[jU (by omega)]
 simp only[P1]
 unfold B2
 cases hp:(cg ((bl l).takeWhile aY)).2 with
 | false=>simp
 | true =>
  simp only[S2,T3]
  rw[show(⟨#[58]⟩:P0)=ba [58] from rfl,c8 (by omega)]
  simp only[P1,jF (c:=58) (.inr (.inr (.inr (.inr rfl)))),P3]
  by_cases hc:(bl ((bl l).dropWhile aY)).head? = some 58
  ·simp only[hc,U5,S1,P9,R0,S2]
   rw[tt (by omega)]
   simp only[P1]
   rw[show bl ((bl ((bl l).dropWhile aY)).drop 1)=gy (bl l) from rfl,jU (by omega)]
   simp only[P1]
   cases b <;> simp
  ·simp only[hc,V5,S8,S2,P9,R0]
abbrev RI:=Option ((Int×Unit)×(lV×Unit))
def qg (x:ab):Bool:=decide (x.2.2.1.2.2.1.size≤100000) && decide (x.2.2.2.2.2.1.length≤100000)
def sm (ns:List ab):Bool:=ns.all qg
def eF (l:ae) (b:Bool) (ns:List ab) (F:RI):Prop :=
 ∃(i:Int) (l':ae) (b':Bool) (ns':List ab),F=some ((i,()),((ba l',ns',b',()),()))∧l' <:+ l∧(b=true→b'=true)∧ns <+: ns'∧ns'.length≤60∧(sm ns=true→sm ns'=true)
theorem eF.mono {l l0:ae} {b b0:Bool} {ns ns0:List ab} {F:RI} (h:eF l b ns F) (h1:l <:+ l0) (h2:b0=true→b=true) (h3:ns0 <+: ns) (h4:sm ns0=true→sm ns=true:=by exact id):eF l0 b0 ns0 F:=by
 obtain⟨i,l',b',ns',e,k1,k2,k3,k4,k5⟩:=h
 exact⟨i,l',b',ns',e,ac k1 h1,fun h=>k2 (h2 h),List.IsPrefix.trans h3 k3,k4,fun h=>k5 (h4 h)⟩
theorem kg (l:ae):l <:+ l:=List.suffix_refl l
theorem dx {x:ab} {l:ae} {b:Bool} {ns:List ab} (hn:ns.length≤60) (hx:qg x=true:=by rfl):eF l b ns (aR x (ba l) b ns):=by
 obtain⟨i,h,_⟩:=ww (x:=x) (l:=l) (b:=b) hn
 refine⟨i,l,_,_,h,kg l,(fun hb=>by rw[hb]; rfl),?_,?_,?_⟩
 ·split
  ·exact⟨[x],rfl⟩
  ·exact W7 _
 ·split
  ·rename_i h
   rw[P6,P3]
   omega
  ·exact hn
 ·intro hs
  split
  ·unfold sm at hs ⊢
   rw[ac_,hs]
   simp[hx]
  ·exact hs
theorem GP {v:aD} (h:v.2.2.1.size≤100000):qg (nC v)=true:=by
 unfold qg
 rw[R5 h]
 rfl
theorem zY {op:Int} {y:List Int} (h:y.length≤100000):qg (6,op,(0,0,(⟨#[]⟩:P0),()),((0,0,()),false,false,()),((0,0,()),false,false,()),y,())=true:=by
 unfold qg
 rw[P8]
 exact⟨rfl,R5 h⟩
theorem kG {v:aD} {r:P0} {b:Bool} {ns:List ab}:bG v r b ns=aR (nC v) r b ns:=by
 rw[uh]
 exact fQ
theorem r5 {i:Int} {l:ae} {b:Bool} {ns:List ab} (hn:ns.length≤60):eF l b ns (some ((i,()),((ba l,ns,true,()),()))) :=
 ⟨i,l,true,ns,rfl,kg l,fun _=>rfl,W7 _,hn,id⟩
theorem gz {l:ae} {c:UInt8} (h:l.head? = some c) : ∃ t,l=c :: t:=by
 cases l with
 | nil=>cases h
 | cons y t =>
  simp only[W9,R8] at h
  exact⟨t,by rw[h]⟩
theorem ki {l:ae} {c:UInt8} (h:(bl l).head? = some c):((bl l).drop 1).length < l.length:=by
 have:=aA (ao l)
 obtain⟨t,ht⟩:=gz h
 rw[ht] at this ⊢
 simp only[Q1,U1,W3] at this ⊢
 omega
theorem eR (l:ae):(bl l).drop 1 <:+ l:=ac (dS 1 _) (ao l)
theorem ED (l:ae):(bl l).dropWhile aY <:+ l:=ac (bs_ _) (ao l)
theorem A1 (l:ae):(gy (bl l)).dropWhile aY <:+ l :=
 ac (bs_ _) (ac (ao _) (ac (dS 1 _) (ac (ao _) (ED l))))
section
variable {n:Nat} (HB : ∀ l:ae,l.length < n → ∀(deep least:Int) (b:Bool) (ns:List ab),0≤deep→deep+(l.length:Int)≤400→ns.length≤60→eF l b ns (bw least deep (ba l) b ns))
include HB
theorem B3 : ∀(m:Nat) (l:ae) (op deep:Int) (b:Bool) (kids:List Int) (ns:List ab),l.length=m→l.length < n→0≤deep→deep+1+(l.length:Int)≤400→kids.length+l.length≤10000→ns.length≤60→eF l b ns (b9 op deep (ba l) b kids ns):=by
 intro m
 induction m using Nat.strongRecOn with
 | ind m ih =>
  intro l op deep b kids ns hm hln hd0 hd hk hn
  subst hm
  rw[hY]
  cases b with
  | true =>
   simp only[S1,P9,R0,fQ]
   exact dx hn (zY (by omega))
  | false =>
   have tail : ∀(l2:ae) (b2:Bool) (ns2:List ab) (y:List Int),l2 <:+ l→ns <+: ns2→ns2.length≤60→y.length=kids.length+1→(sm ns=true→sm ns2=true) →
     eF l false ns ((bu (⟨#[44]⟩:P0) (ba l2) b2 ns2).bind fun z3=>(if(!z3.1.1)=true then(if z3.2.1.2.2.1=true then((aR (6,op,(0,0,(⟨#[]⟩:P0),()),((0,0,()),false,false,()),((0,0,()),false,false,()),y,()) z3.2.1.1 true z3.2.1.2.1).bind fun z4=>(some ((z4.1.1,()),(z4.2.1,())))) else((bu (⟨#[41]⟩:P0) z3.2.1.1 z3.2.1.2.2.1 z3.2.1.2.1).bind fun z5=>((aR (6,op,(0,0,(⟨#[]⟩:P0),()),((0,0,()),false,false,()),((0,0,()),false,false,()),y,()) z5.2.1.1 (!z5.1.1) z5.2.1.2.1).bind fun z6=>(some ((z6.1.1,()),(z6.2.1,())))))) else(b9 op deep z3.2.1.1 z3.2.1.2.2.1 y z3.2.1.2.1))):=by
    intro l2 b2 ns2 y hs hp hn2 hy hsm
    have hl2:=aA hs
    rw[show(⟨#[44]⟩:P0)=ba [44] from rfl,c8 (by omega)]
    simp only[P1,jF (c:=44) (.inr (.inr (.inr (.inl rfl)))),fQ,P3]
    by_cases hc:(bl l2).head? = some 44
    ·have hlt:=ki hc
     simp only[hc,U5,S1,P9,R0,S2]
     exact(ih _ (by omega) _ op deep b2 y ns2 rfl (by omega) hd0 (by omega) (by omega) hn2).mono (ac (eR l2) hs) (fun h=>by cases h) hp hsm
    ·simp only[hc,V5,S8,S2,R0]
     have hbl:=aA (ao l2)
     cases b2 with
     | true =>
      simp only[S2]
      exact(dx hn2 (zY (by omega))).mono (ac (ao l2) hs) (fun h=>by cases h) hp hsm
     | false =>
      simp only[P9,R0]
      rw[show(⟨#[41]⟩:P0)=ba [41] from rfl,c8 (by omega)]
      simp only[P1,fQ]
      refine(dx hn2 (zY (by omega))).mono ?_ (fun h=>by cases h) hp hsm
      split
      ·exact ac (ac (dS _ _) (ao _)) (ac (ao l2) hs)
      ·exact ac (ao _) (ac (ao l2) hs)
   simp only[S8,S2]
   rw[EC (by omega)]
   by_cases ha:B2 (bl l)=true
   ·rw[P5 ha]
    simp only[P1,S2]
    obtain⟨i2,l2,b2,ns2,h2,k1,k2,k3,k4,k5⟩:=dx (x:=nA (cg ((bl l).takeWhile aY)).1 (cg ((gy (bl l)).takeWhile aY)).1) (l:=(gy (bl l)).dropWhile aY) (b:=(false || !(cg ((gy (bl l)).takeWhile aY)).2)) hn
    rw[h2]
    simp only[P1]
    rw[bv (by simp only[P3]; omega)]
    exact tail _ _ _ _ (ac k1 (A1 l)) k3 k4 (by simp) k5
   ·rw[P4 ha]
    simp only[P1,P9,R0]
    rw[wr (by omega) (by omega)]
    obtain⟨i2,l2,b2,ns2,h2,k1,k2,k3,k4,k5⟩:=HB l hln (deep+1) 1 false ns (by omega) hd hn
    rw[h2]
    simp only[P1]
    rw[bv (by simp only[P3]; omega)]
    exact tail _ _ _ _ k1 k3 k4 (by simp) k5
theorem LR {l:ae} {op deep:Int} {b:Bool} {ns:List ab} (hln:l.length < n) (hd0:0≤deep) (hd:deep+1+(l.length:Int)≤400) (hn:ns.length≤60):eF l b ns (fg op deep (ba l) b ns):=by
 rw[p5]
 cases b with
 | true =>
  rw[P5 rfl,vm]
  simp only[S1,P9,R0,fQ]
  exact dx hn (zY (by simp))
 | false =>
  rw[P4 (by decide),show(⟨#[40]⟩:P0)=ba [40] from rfl,c8 (by omega)]
  simp only[P1]
  have hs:(if sg (bl l)=[40] then(bl l).drop ([40]:ae).length else bl l) <:+ l:=by
   split
   ·exact eR l
   ·exact ao l
  have:=aA hs
  exact(B3 HB _ _ op deep _ [] ns rfl (by omega) hd0 (by omega) (by simp only[List.length_nil]; omega) hn).mono hs (fun h=>by cases h) (W7 _)
theorem LS {deep:Int} {w r:ae} {b:Bool} {ns:List ab} (hln:jG.find? (fun k=>decide (ek k=w))≠none→r.length < n∧deep+1+(r.length:Int)≤400) (hd0:0≤deep) (hn:ns.length≤60):eF r b ns (fj deep w r b ns):=by
 unfold fj
 split
 ·rename_i hc
  rw[kG]
  exact dx hn (GP (T5 (fN (pE hc.1).1) (by decide)))
 ·split
  ·exact dx hn
  ·cases hf:jG.find? (fun k=>decide (ek k=w)) with
   | some k =>
    obtain⟨h1,h2⟩:=hln (by rw[hf]; simp)
    exact LR HB h1 hd0 h2 hn
   | none=>exact r5 hn
end
theorem GQ {w:ae} (h:jG.find? (fun k=>decide (ek k=w))≠none) : ∃ k,jG.find? (fun k=>decide (ek k=w))=some k∧ek k=w∧k∈jG∧w≠[]:=by
 cases hf:jG.find? (fun k=>decide (ek k=w)) with
 | none=>exact S0 hf h
 | some k =>
  have h1:=List.find?_some hf
  have h2:=List.mem_of_find?_eq_some hf
  have h3:ek k=w:=by simpa using h1
  refine⟨k,rfl,h3,h2,?_⟩
  have : ∀ k∈jG,ek k≠[]:=by decide
  rw[←h3]
  exact this k h2
theorem GR {l:ae} (h:(bl l).takeWhile aY≠[]):((bl l).dropWhile aY).length < l.length:=by
 have h1:=aA (ao l)
 have h2:=Q3 Q2 (List.takeWhile_append_dropWhile (p:=aY) (l:=bl l))
 rw[P6] at h2
 have h3:=List.length_pos_iff.2 h
 omega
theorem Iz {l:ae} {b:Bool} {ns:List ab} (hl:l.length≤900) (hn:ns.length≤60):eF (34 :: l) b ns (ge (ba (34 :: l)) b ns):=by
 rw[zW hl]
 cases hq:qt l with
 | none=>exact r5 hn
 | some p =>
  obtain⟨h1,h2,_⟩:=Kh l p.1 p.2 hq
  show eF _ b ns (bG _ _ b ns)
  rw[kG]
  refine(dx hn (GP ?_)).mono (ac h1 ⟨[34],rfl⟩) id (W7 _)
  show(ba ([]++p.1)).size≤_
  rw[aJ]
  simp only[List.nil_append]
  omega
theorem B4 (l:ae):(bl (35 :: l)).takeWhile aY=[]∧(bl (35 :: l)).dropWhile aY=35 :: l:=by
 have h1:bl (35 :: l)=35 :: l:=V9 (by decide)
 rw[h1]
 exact⟨aq_ (by decide),V9 (by decide)⟩
theorem GS {deep:Int} {l:ae} {b:Bool} {ns:List ab} (hl:l.length≤800):cG deep 1 (ba (35 :: l)) b ns=match rY.find? (rZ l) with
  | some n=>bG (vE n) (ba (l.drop (kF n).length)) b ns
  | none=>some ((-1,()),((ba (35 :: l),ns,true,()),())):=by
 have h:=B0 (deep:=deep) (l:=l) (b:=b) (ns:=ns) (by omega) rY [] rfl
 have h:cG deep 1 (ba (35 :: l)) b ns=_:=h
 rw[h]
 cases rY.find? (rZ l) with
 | some n=>rfl
 | none =>
  simp only
  rw[OT (by rw[Q1]; omega),(B4 l).1,(B4 l).2]
  have e1 : ¬((bH []).2=true∧((bH []).1.1=1∨(bH []).1.1=3)):=by decide +kernel
  have e2 : ¬(cg []).2=true:=by decide +kernel
  have e3:jG.find? (fun k=>decide (ek k=[]))=none:=by decide +kernel
  unfold fj
  rw[P4 e1,P4 e2,e3]
theorem LU {l:ae} (HB : ∀ l':ae,l'.length < l.length → ∀(deep least:Int) (b:Bool) (ns:List ab),0≤deep→deep+(l'.length:Int)≤400→ns.length≤60→eF l' b ns (bw least deep (ba l') b ns))
  {deep:Int} {b:Bool} {ns:List ab} (hd0:0≤deep) (hd:deep+(l.length:Int)≤400) (hn:ns.length≤60):eF l b ns (ln deep (ba l) b ns):=by
 have hbl:=aA (ao l)
 rw[EB (by omega)]
 by_cases c1:(bl l).head? = some 34
 ·rw[P5 c1]
  obtain⟨t,ht⟩:=gz c1
  have htl:t.length+1=(bl l).length:=by rw[ht]; simp
  rw[ht]
  exact(Iz (by omega) hn).mono (by rw[←ht]; exact ao l) id (W7 _)
 ·rw[P4 c1]
  by_cases c2:(bl l).head? = some 35
  ·rw[P5 c2]
   obtain⟨t,ht⟩:=gz c2
   have htl:t.length+1=(bl l).length:=by rw[ht]; simp
   have hts:t <:+ l:=ac ⟨[35],by rw[ht]; rfl⟩ (ao l)
   rw[ht,GS (by omega)]
   cases rY.find? (rZ t) with
   | some n =>
    simp only
    rw[kG]
    exact(dx hn (GP (by show eS.size≤_; decide))).mono (ac (dS _ _) hts) id (W7 _)
   | none=>exact(r5 hn).mono (by rw[←ht]; exact ao l) id (W7 _)
  ·rw[P4 c2]
   by_cases c3:(bl l).head? = some 40
   ·rw[P5 c3]
    have hlt:=ki c3
    rw[wr (by omega) (by omega)]
    obtain⟨i2,l2,b2,ns2,h2,k1,k2,k3,k4,k5⟩:=HB _ hlt (deep+1) 1 b ns (by omega) (by omega) hn
    rw[h2]
    simp only[P1]
    have hl2:=aA k1
    have hs2:l2 <:+ l:=ac k1 (eR l)
    cases b2 with
    | true =>
     simp only[S2]
     exact⟨i2,l2,true,ns2,rfl,hs2,fun _=>rfl,k3,k4,k5⟩
    | false =>
     simp only[P9,R0]
     rw[show(⟨#[41]⟩:P0)=ba [41] from rfl,c8 (by omega)]
     simp only[P1]
     refine⟨i2,_,_,ns2,rfl,?_,(fun h=>by have:=k2 h; cases this),k3,k4,k5⟩
     split
     ·exact ac (ac (dS _ _) (ao _)) hs2
     ·exact ac (ao _) hs2
   ·rw[P4 c3]
    refine(LS HB (fun h => ?_) hd0 hn).mono (ED l) id (W7 _)
    obtain⟨k,_,_,_,hw⟩:=GQ h
    have:=GR hw
    omega
theorem Km : ∀(m:Nat) (l:ae),l.length=m→(∀ l':ae,l'.length < l.length → ∀(deep least:Int) (b:Bool) (ns:List ab),0≤deep→deep+(l'.length:Int)≤400→ns.length≤60→eF l' b ns (bw least deep (ba l') b ns)) →
  ∀(deep:Int) (b:Bool) (ns:List ab),0≤deep→deep+(l.length:Int)≤400→ns.length≤60→eF l b ns (gU deep (ba l) b ns):=by
 intro m
 induction m using Nat.strongRecOn with
 | ind m ih =>
  intro l hm HB deep b ns hd0 hd hn
  subst hm
  rw[pc,aq (by omega)]
  cases b with
  | true =>
   simp only[S2]
   exact r5 hn
  | false =>
   simp only[P9,R0,fQ]
   rw[show(⟨#[45]⟩:P0)=ba [45] from rfl,c8 (by omega)]
   simp only[P1,jF (c:=45) (.inl rfl),P3]
   have hbl:=aA (ao l)
   by_cases hc:(bl l).head? = some 45
   ·have hlt:=ki hc
    simp only[hc,U5,S2]
    rw[wr (by omega) (by omega)]
    obtain⟨i2,l2,b2,ns2,h2,k1,k2,k3,k4,k5⟩:=ih _ hlt _ rfl (fun l' h'=>HB l' (by omega)) (deep+1) false ns (by omega) (by omega) hn
    rw[h2]
    simp only[P1]
    exact(dx k4).mono (ac k1 (eR l)) (fun h=>by cases h) k3 k5
   ·simp only[hc,V5,P9,R0]
    exact(LU (l:=bl l) (fun l' h'=>HB l' (by omega)) hd0 (by omega) hn).mono (ao l) id (W7 _)
theorem A2 {least deep left:Int} {op:Int} {l:ae} {ns:List ab} (ho:0≤op) (ho2:op≤11) (hl:l.length≤900) (hs:op≠0→sg (bl l)=dn op):bS least deep left op 12 (ba l) false ns =
  if op=0∨cJ op < least then some ((left,()),((ba l,ns,false,()),()))
  else((bw (cJ op+1) deep (ba ((bl l).drop (dn op).length)) false ns).bind fun z7=>((aR (5,op,(0,0,(⟨#[]⟩:P0),()),((0,0,()),false,false,()),((0,0,()),false,false,()),([left,z7.1.1]:(List Int)),()) z7.2.1.1 z7.2.1.2.2.1 z7.2.1.2.1).bind fun z8=>(dB least deep z8.1.1 z8.2.1.1 z8.2.1.2.2.1 z8.2.1.2.1))):=by
 rw[lw,aq (by decide)]
 by_cases h0:op=0
 ·rw[P5 (by rw[h0]; rfl),P5 (.inl h0)]
 ·have h0' : ¬(op == 0)=true:=by simpa using h0
  have hlv:1≤cJ op∧cJ op≤4:=by
   unfold cJ
   repeat' split
   all_goals omega
  rw[P4 h0',BX (by omega) ho2]
  simp only[P1]
  by_cases h1:cJ op < least
  ·rw[ay h1,P5 (.inr h1)]
  ·rw[aq h1,P4 (by omega),tq ho ho2]
   simp only[P1]
   rw[c8 (by omega),hs h0]
   simp only[P1,S2]
   rw[wr (by omega) (by omega)]
theorem EE {l:ae} (h:dT (bl l)≠0):((bl l).drop (dn (dT (bl l))).length).length < l.length:=by
 have h1:=aA (ao l)
 have h2:=to h
 have h3:=wv (En (bl l))
 have h4:1≤(dn (dT (bl l))).length:=by
  have:=m5 (bl l)
  have h5 : ∀ k:Fin 12,k.val≠0→1≤(dn (k.val:Int)).length:=by decide
  have:=h5 ⟨(dT (bl l)).toNat,by omega⟩ (by simp only; omega)
  simp only[X1 (m5 (bl l)).1] at this
  exact this
 rw[h2] at h3
 rw[al_]
 omega
theorem tv : ∀(m:Nat) (l:ae),l.length=m→(∀ l':ae,l'.length < l.length → ∀(deep least:Int) (b:Bool) (ns:List ab),0≤deep→deep+(l'.length:Int)≤400→ns.length≤60→eF l' b ns (bw least deep (ba l') b ns)) →
  ∀(least deep left:Int) (b:Bool) (ns:List ab),0≤deep→deep+(l.length:Int)≤400→ns.length≤60→eF l b ns (dB least deep left (ba l) b ns):=by
 intro m
 induction m using Nat.strongRecOn with
 | ind m ih =>
  intro l hm HB least deep left b ns hd0 hd hn
  subst hm
  rw[gL]
  cases b with
  | true=>exact r5 hn
  | false =>
   simp only[S8,S2]
   have hbl:=aA (ao l)
   obtain⟨o1,o2⟩:=m5 (bl l)
   rw[xU (by omega),A2 o1 o2 (by omega) (fun h=>by rw[cM]; exact to h),cM]
   split
   ·exact⟨left,bl l,false,ns,rfl,ao l,fun h=>h,W7 _,hn,id⟩
   ·rename_i hop
    have hop':dT (bl l)≠0:=fun e=>hop (.inl e)
    have hlt:=EE hop'
    obtain⟨i2,l2,b2,ns2,h2,k1,k2,k3,k4,k5⟩:=HB _ hlt deep (cJ (dT (bl l))+1) false ns hd0 (by omega) hn
    rw[h2]
    simp only[P1]
    obtain⟨i3,l3,b3,ns3,h3,j1,j2,j3,j4,j5⟩:=dx (x:=(5,dT (bl l),(0,0,(⟨#[]⟩:P0),()),((0,0,()),false,false,()),((0,0,()),false,false,()),([left,i2]:(List Int)),())) (l:=l2) (b:=b2) k4
    rw[h3]
    simp only[P1]
    have hs2:=aA k1
    have hs3:=aA j1
    exact(ih _ (by omega) l3 rfl (fun l' h'=>HB l' (by omega)) least deep i3 b3 ns3 hd0 (by omega) j4).mono (ac j1 (ac k1 (ac (dS _ _) (ao l)))) (fun h=>by cases h) (List.IsPrefix.trans k3 j3) (fun h=>j5 (k5 h))
theorem IA : ∀(m:Nat) (l:ae),l.length=m → ∀(deep least:Int) (b:Bool) (ns:List ab),0≤deep→deep+(l.length:Int)≤400→ns.length≤60→eF l b ns (bw least deep (ba l) b ns):=by
 intro m
 induction m using Nat.strongRecOn with
 | ind m ih =>
  intro l hm deep least b ns hd0 hd hn
  subst hm
  have HB : ∀ l':ae,l'.length < l.length → ∀(deep least:Int) (b:Bool) (ns:List ab),0≤deep→deep+(l'.length:Int)≤400→ns.length≤60→eF l' b ns (bw least deep (ba l') b ns) :=
   fun l' h' deep least b ns d0 d1 hn=>ih _ h' l' rfl deep least b ns d0 d1 hn
  rw[nD]
  obtain⟨i2,l2,b2,ns2,h2,k1,k2,k3,k4,k5⟩:=Km _ l rfl HB deep b ns hd0 hd hn
  rw[h2]
  simp only[P1]
  have hs2:=aA k1
  exact(tv _ l2 rfl (fun l' h'=>HB l' (by omega)) least deep i2 b2 ns2 hd0 (by omega) k4).mono k1 k2 k3 k5
abbrev RS:=Option ((Int×Unit)×(g8×Unit))
def cN (ns:List ab):Bool:=ns.all dM
theorem Kn {ns ns':List ab} (h:ns <+: ns') (k:cN ns=false):cN ns'=false:=by
 obtain⟨r,rfl⟩:=h
 unfold cN at k ⊢
 rw[ac_,k]
 rfl
def Dm (b:Bool) (ns:List ab):Prop:=(b=true∨cN ns=false)∧sm ns=true
theorem Ko {x:ab} (h:dM x=true):qg x=true:=by
 have:x.2.2.1.2.2.1.size≤100000∧x.2.2.2.2.2.1.length≤100000:=by
  unfold dM kl at h
  split at h
  ·simp only[P8,Q0] at h
   have:=fN h.1.1.2
   omega
  ·split at h
   ·simp only[P8,Q0] at h
    rw[h.1.1.1.2]
    exact⟨by decide,by omega⟩
   ·split at h
    ·simp only[P8,Q0] at h
     rw[h.1.1.2]
     exact⟨by decide,by omega⟩
    ·split at h
     ·simp only[P8,Q0] at h
      rw[h.1.1.1.2]
      exact⟨by decide,by omega⟩
     ·split at h
      ·simp only[P8,Q0] at h
       rw[h.1.1.1.2]
       exact⟨by decide,by omega⟩
      ·split at h
       ·simp only[P8,Q0] at h
        rw[h.1.1.2]
        refine⟨by decide,?_⟩
        have h2:=h.1.1.1
        unfold py at h2
        split at h2
        ·simp only[Z6,Q0] at h2
         omega
        ·split at h2
         ·have:=bK.1 h2
          omega
         ·split at h2
          ·simp only[Q0] at h2
           omega
          ·cases h2
       ·cases h
 unfold qg
 rw[R5 this.1,R5 this.2]
 rfl
theorem tw {ns:List ab} (h:cN ns=true):sm ns=true:=by
 unfold cN at h
 unfold sm
 rw[List.all_eq_true] at h ⊢
 exact fun x hx=>Ko (h x hx)
theorem zZ {ns:List ab} (h:cN ns=true):Dm true ns:=⟨.inl rfl,tw h⟩
theorem eF.dm {l:ae} {b:Bool} {ns:List ab} {F:RI} (h:eF l b ns F) (hd:Dm b ns) : ∃(i:Int) (l':ae) (b':Bool) (ns':List ab),F=some ((i,()),((ba l',ns',b',()),()))∧l' <:+ l∧Dm b' ns'∧ns'.length≤60:=by
 obtain⟨i,l',b',ns',e,k1,k2,k3,k4,k5⟩:=h
 exact⟨i,l',b',ns',e,k1,⟨hd.1.elim (fun h => .inl (k2 h)) (fun h => .inr (Kn k3 h)),k5 hd.2⟩,k4⟩
def jH (s m:ae) (L:Int) (F:RI) (G:RS):Prop :=
 (∃(i:Int) (l1 l2:ae) (ns:List ab),F=some ((i,()),((ba l1,ns,false,()),()))∧G=some ((i,()),((ba s,bA s l2,false,ns,()),()))∧bl l1=bl l2∧l1 <:+ m∧l2 <:+ m∧cN ns=true∧ns.length≤60∧(dT (bl l1)=0∨cJ (dT (bl l1)) < L))
 ∨ (∃(i:Int) (l1:ae) (b1:Bool) (ns1:List ab) (j:Int) (l2:ae) (ns2:List ab),F=some ((i,()),((ba l1,ns1,b1,()),()))∧Dm b1 ns1∧l1 <:+ m∧ns1.length≤60∧G=some ((j,()),((ba s,bA s l2,true,ns2,()),()))∧l2 <:+ s∧ns2.length≤61+m.length)
theorem IB (k:Int):cJ k < 5:=by
 unfold cJ
 repeat' split
 all_goals omega
theorem jH.mono {s m m':ae} {L:Int} {F:RI} {G:RS} (h:jH s m L F G) (hm:m <:+ m'):jH s m' L F G:=by
 have:=aA hm
 rcases h with⟨i,l1,l2,ns,e1,e2,h1,h2,h3,h4,h5,h6⟩ | ⟨i,l1,b1,ns1,j,l2,ns2,e1,h1,h2,h3,e2,h4,h5⟩
 ·exact .inl ⟨i,l1,l2,ns,e1,e2,h1,ac h2 hm,ac h3 hm,h4,h5,h6⟩
 ·exact .inr ⟨i,l1,b1,ns1,j,l2,ns2,e1,h1,ac h2 hm,h3,e2,h4,by omega⟩
theorem GT {ns:List ab} {x:ab} (h:sm ns=true) (hx:qg x=true):sm (ns++[x])=true:=by
 unfold sm at h ⊢
 rw[ac_,h]
 simp[hx]
theorem EF {x:ab} (h:qg x=true):x.2.2.1.2.2.1.size≤9223372036854775807:=by
 unfold qg at h
 rw[P8,Q0] at h
 exact T5 h.1 (by decide)
theorem mb {s m l1 l2:ae} {x:ab} {ns:List ab} (hsx:qg x=true) (h1:bl l1=bl l2) (k1:l1 <:+ m) (k2:l2 <:+ m) (hms:m <:+ s) (ho:cN ns=true) (hn:ns.length≤60) :
  jH s m 5 (aR x (ba l1) false ns) (bM x (ba s) (bA s l2) false ns):=by
 have hx:=EF hsx
 obtain⟨i,e,hi⟩:=ww (x:=x) (l:=l1) (b:=false) hn
 rw[e,AY (by omega) hx]
 by_cases hlt:ns.length < 60
 ·have hi:=hi rfl hlt
  subst hi
  have d60:decide (60≤ns.length)=false:=S3 (by omega)
  rw[d60,P5 ⟨rfl,hlt⟩]
  simp only[bf_]
  cases hk:dM x with
  | true =>
   refine .inl ⟨_,l1,l2,ns++[x],rfl,rfl,h1,k1,k2,?_,?_,.inr (IB _)⟩
   ·unfold cN at ho ⊢
    rw[ac_,ho]
    simp[hk]
   ·rw[P6,P3]; omega
  | false =>
   refine .inr ⟨_,l1,false,ns++[x],(ns.length:Int),l2,ns++[x],rfl,⟨.inr ?_,GT (tw ho) hsx⟩,k1,?_,rfl,ac k2 hms,?_⟩
   ·unfold cN
    rw[ac_]
    simp[hk]
   ·rw[P6,P3]; omega
   ·rw[P6,P3]; omega
 ·have d60:decide (60≤ns.length)=true:=R5 (by omega)
  rw[d60,P4 (by omega)]
  refine .inr ⟨i,l1,true,ns,(ns.length:Int),l2,ns++[x],rfl,zZ ho,k1,hn,?_,ac k2 hms,?_⟩
  ·simp
  ·rw[P6,P3]; omega
theorem EG {s:ae} {a:Int} {x:ab} {ns:List ab} (hn:ns.length≤1000) (hx:x.2.2.1.2.2.1.size≤9223372036854775807):bM x (ba s) a true ns=some (((ns.length:Int),()),((ba s,a,true,ns++[x],()),())):=by
 rw[AY hn hx]
 rfl
theorem IC {op:Int} {s:P0} {a:Int} {b:Bool} {ns:List ab} {kids:List Int}:nd op s a b ns kids=cr op s a b kids ns:=by
 rw[xL,jn]
theorem B5 {op:Int} {s:P0} {a:Int} {ns:List ab} {kids:List Int}:cr op s a true kids ns=some ((0,()),((s,a,true,ns,()),())):=by
 rw[jn]
 rfl
abbrev nF (op:Int) (kids:List Int):ab:=(6,op,(0,0,(⟨#[]⟩:P0),()),((0,0,()),false,false,()),((0,0,()),false,false,()),kids,())
noncomputable def tx (op deep:Int) (y:List Int) (r:P0) (b:Bool) (ns:List ab):RI :=
 (bu (⟨#[44]⟩:P0) r b ns).bind fun z3=>(if(!z3.1.1)=true then(if z3.2.1.2.2.1=true then((aR (nF op y) z3.2.1.1 true z3.2.1.2.1).bind fun z4=>(some ((z4.1.1,()),(z4.2.1,())))) else((bu (⟨#[41]⟩:P0) z3.2.1.1 z3.2.1.2.2.1 z3.2.1.2.1).bind fun z5=>((aR (nF op y) z5.2.1.1 (!z5.1.1) z5.2.1.2.1).bind fun z6=>(some ((z6.1.1,()),(z6.2.1,())))))) else(b9 op deep z3.2.1.1 z3.2.1.2.2.1 y z3.2.1.2.1))
theorem F9 {op deep:Int} {l:ae} {kids:List Int} {ns:List ab} (hl:l.length≤900):b9 op deep (ba l) false kids ns =
  if B2 (bl l)=true then(aR (nA (cg ((bl l).takeWhile aY)).1 (cg ((gy (bl l)).takeWhile aY)).1) (ba ((gy (bl l)).dropWhile aY)) (!(cg ((gy (bl l)).takeWhile aY)).2) ns).bind fun z2=>(app kids ([z2.1.1]:(List Int)) 8 fun y1=>tx op deep y1 z2.2.1.1 z2.2.1.2.2.1 z2.2.1.2.1)
  else(bw 1 (IntKind.i64.wrap (deep+1)) (ba l) false ns).bind fun z7=>(app kids ([z7.1.1]:(List Int)) 8 fun y2=>tx op deep y2 z7.2.1.1 z7.2.1.2.2.1 z7.2.1.2.1):=by
 rw[hY]
 simp only[S8,S2]
 rw[EC hl]
 by_cases ha:B2 (bl l)=true
 ·rw[P5 ha,P5 ha]
  simp only[P1,S2,bf_]
  rfl
 ·rw[P4 ha,P4 ha]
  simp only[P1,P9,R0]
  rfl
theorem wy : ∀(l:ae),∀(deep least:Int) (b:Bool) (ns:List ab),0≤deep→deep+(l.length:Int)≤400→ns.length≤60→eF l b ns (bw least deep (ba l) b ns):=fun l=>IA _ l rfl
theorem tz {op deep:Int} {y:List Int} {l:ae} {b:Bool} {ns:List ab} (hd0:0≤deep) (hd:deep+1+(l.length:Int)≤400) (hy:y.length+l.length≤9000) (hn:ns.length≤60):eF l b ns (tx op deep y (ba l) b ns):=by
 have hbl:=aA (ao l)
 unfold tx
 rw[show(⟨#[44]⟩:P0)=ba [44] from rfl,c8 (by omega)]
 simp only[P1,fQ]
 by_cases hc:sg (bl l)=[44]
 ·have hc':(bl l).head? = some 44:=by rw[←jF (c:=44) (.inr (.inr (.inr (.inl rfl))))]; exact hc
  have hlt:=ki hc'
  simp only[hc,U5,S1,P9,R0,S2,P3]
  exact(B3 (n:=l.length+1) (fun l' _ deep least b ns d0 d1 hn=>wy l' deep least b ns d0 d1 hn) _ _ op deep b y ns rfl (by omega) hd0 (by omega) (by omega) hn).mono (eR l) id (W7 _)
 ·simp only[hc,V5,S8,S2,R0]
  cases b with
  | true =>
   simp only[S2]
   exact(dx hn (zY (by omega))).mono (ao l) (fun _=>rfl) (W7 _)
  | false =>
   simp only[P9,R0]
   rw[show(⟨#[41]⟩:P0)=ba [41] from rfl,c8 (by omega)]
   simp only[P1,fQ]
   refine(dx hn (zY (by omega))).mono ?_ (fun h=>by cases h) (W7 _)
   split
   ·exact ac (ac (dS _ _) (ao _)) (ao l)
   ·exact ac (ao _) (ao l)
noncomputable def wz (op:Int) (y:List Int) (s:P0) (a:Int) (b:Bool) (ns:List ab):RS :=
 (cO (⟨#[41]⟩:P0) s a b ns).bind fun z2=>(if z2.1.1=true then((bM (nF op y) z2.2.1.1 z2.2.1.2.1 z2.2.1.2.2.1 z2.2.1.2.2.2.1).bind fun z3=>(some ((z3.1.1,()),(z3.2.1,())))) else((cO (⟨#[44]⟩:P0) z2.2.1.1 z2.2.1.2.1 z2.2.1.2.2.1 z2.2.1.2.2.2.1).bind fun z4=>(if(!z4.1.1)=true then(cr op z4.2.1.1 z4.2.1.2.1 true y z4.2.1.2.2.2.1) else(cr op z4.2.1.1 z4.2.1.2.1 z4.2.1.2.2.1 y z4.2.1.2.2.2.1))))
theorem qh {op:Int} {y:List Int} {s l:ae} {ns:List ab} (hs:s.length≤900) (h:l <:+ s) : ∃ l',l' <:+ s∧wz op y (ba s) (bA s l) true ns=some ((0,()),((ba s,bA s l',true,ns,()),())):=by
 unfold wz
 rw[show(⟨#[41]⟩:P0)=ba [41] from rfl,fi (by omega) (by decide) h]
 simp only[P1,S1,Bool.false_and,P9,R0]
 rw[show(⟨#[44]⟩:P0)=ba [44] from rfl,fi (by omega) (by decide) (ac (ao l) h)]
 simp only[P1,S1,Bool.false_and,P9,R0,S8,S2]
 exact⟨bl (bl l),ac (ao _) (ac (ao l) h),B5⟩
theorem Ga {op:Int} {s l:ae} {kids:List Int} {ns:List ab}:cr op (ba s) (bA s l) false kids ns=(mM (ba s) (bA s l) false ns).bind fun z1=>(app kids ([z1.1.1]:(List Int)) 8 fun y1=>wz op y1 z1.2.1.1 z1.2.1.2.1 z1.2.1.2.2.1 z1.2.1.2.2.2.1):=by
 rw[jn]
 rfl
theorem M3 {s l:ae} {ns:List ab} (hs:s.length≤900) (h:l <:+ s):mM (ba s) (bA s l) false ns =
  if B2 (bl l)=true then(if(cg ((gy (bl l)).takeWhile aY)).2=true then bM (nA (cg ((bl l).takeWhile aY)).1 (cg ((gy (bl l)).takeWhile aY)).1) (ba s) (bA s ((gy (bl l)).dropWhile aY)) false ns
   else some ((0,()),((ba s,bA s ((gy (bl l)).dropWhile aY),true,ns,()),())))
  else dt 1 (ba s) (bA s (bl l)) false ns:=by
 have hm:=ac (ao l) h
 have hr:=ac (ED l) h
 have hsl:=aA h
 have h1:=aA (ao l)
 have h2:=iH aY (bl l)
 have h3:=aA (A1 l)
 rw[DY,Ep (by omega) h]
 simp only[P1]
 rw[xV (by omega) hm]
 simp only[P1]
 rw[np (by omega)]
 simp only[P1]
 unfold B2
 cases hp:(cg ((bl l).takeWhile aY)).2 with
 | false=>simp only[Bool.false_and,P9,R0,eE]
 | true =>
  simp only[S2,T3]
  rw[show(⟨#[58]⟩:P0)=ba [58] from rfl,fi (by omega) (by decide) hr]
  simp only[P1,S8,T3,xO]
  by_cases hc:(bl ((bl l).dropWhile aY)).head? = some 58
  ·simp only[hc,U5,S2,P3]
   have hq:(bl ((bl l).dropWhile aY)).drop 1 <:+ s:=ac (eR _) hr
   rw[Ep (by omega) hq]
   simp only[P1]
   have hq2:gy (bl l) <:+ s:=ac (ao _) hq
   rw[show bl ((bl ((bl l).dropWhile aY)).drop 1)=gy (bl l) from rfl,xV (by omega) hq2]
   simp only[P1]
   have h4:=iH aY (gy (bl l))
   have h5:=aA hq2
   rw[np (by omega)]
   simp only[P1,eE]
   cases (cg ((gy (bl l)).takeWhile aY)).2 <;> simp
  ·simp only[hc,V5,P9,R0,eE]
end Go.Proofs.YtfffplonjaigkaaGreatDoor.Abs
