/- Plain laws: values that the program reads. -/
import Derived.Test.YtfffplonjaigkaaGreatDoorZM5
import Derived.Lib.IndexBytes
set_option linter.unusedVariables false
set_option linter.unusedSimpArgs false
set_option linter.unusedSectionVars false
open Bool renaming and_eq_true→S8,eq_false_iff→ad_,eq_iff_iff→Y7,false_eq_true→S9,false_or→cf_,not_false→W0,not_true→V6,or_eq_true→bd_,true_and→W6
open ByteArray renaming toList→S2
open Go.Lib renaming decDigits→U8,parseIntB→as_,parseUintB→dj_,parseUintM→bw_
open Int renaming toNat_of_nonneg→ak_,toNat→V1
open List renaming all_append→bi_,append_nil→W9,cons_append→be_,dropWhile_cons_of_neg→Z4,dropWhile_cons_of_pos→ci_,dropWhile_suffix→dk_,drop_append→dl_,drop_succ_cons→X5,drop_zero→Z7,find?_cons→ai_,getD→V5,head?_cons→ah_,isPrefixOf_iff_prefix→ay_,length_append→S5,length_cons→T3,length_drop→bu_,length_singleton→S3,length→T5,mem_cons→U7,prefix_iff_eq_take→dy_,prefix_refl→ac_,takeWhile_cons_of_neg→ch_,take_append→cq_,take_left'→du_
open Nat renaming le_refl→T7,le_trans→W7
open Option renaming bind_some→S1,map_eq_some_iff→Y8
open Option.some renaming injEq→U3,inj→X0
open _root_ renaming ByteArray→S0,absurd→V2,beq_iff_eq→X3,congrArg→T4,decide_eq_false→U9,decide_eq_true_eq→T0,decide_eq_true→U2,decide_false→Z0,decide_true→Y2,if_false→U6,if_neg→S4,if_pos→S6,if_true→V4
namespace Go.Proofs.YtfffplonjaigkaaGreatDoor.Abs
open Go
theorem Jk : ∀(l:af) (a:Nat),a≤bu a l
 | [],a=>T7 _
 | c :: l,a=>by
  have:=Jk l (a*10+(c.toNat - 48))
  show a≤bu (a*10+(c.toNat - 48)) l
  omega
theorem Fh : ∀(l:af) (a:Nat),l.all da=true→bu a l≤100000000000000000→bw_ 18446744073709551615 a l = .ok (bu a l)
 | [],a,_,_=>rfl
 | c :: l,a,h,hv=>by
  simp only[List.all_cons,S8] at h
  have hd:48≤c.toNat∧c.toNat≤57:=by simpa[da] using h.1
  have hg:=Jk l (a*10+(c.toNat - 48))
  have hv':bu (a*10+(c.toNat - 48)) l≤100000000000000000:=hv
  unfold bw_
  rw[S6 hd,S4 (by omega),S4 (by omega),Fh l _ h.2 hv']
  rfl
theorem PS {l:af} (h:gW l=true):l.all da=true:=by
 unfold gW at h
 simp only[S8] at h
 exact h.1.1
theorem MU {u:Nat} (h:u≤1000000000000000):dj_ 64 (U8 u) = .ok u:=by
 unfold dj_
 rw[S4 GI.1]
 have:=Fh (U8 u) 0 (PS (Ad u)) (by rw[qP]; omega)
 rw[qP] at this
 exact this
theorem K6 {u:Nat} (h:u≤1000000000000000):b7 (U8 u)=((u:Int),true):=by
 obtain⟨y,l,hy,hd⟩:=BZ u
 have hd':48≤y.toNat∧y.toNat≤57:=by simpa[da] using hd
 have hp:=MU h
 unfold b7
 have:as_ 64 (U8 u) = .ok (u:Int):=by
  rw[hy] at hp ⊢
  unfold as_
  simp only
  rw[S4 (by omega),hp]
  simp only
  rw[S4 (by omega),S4 (by omega),S4 (by omega)]
 rw[this]
theorem K7 {u:Nat} (h:u≤1000000000000000):b7 (45 :: U8 u)=(-(u:Int),true):=by
 have hp:=MU h
 unfold b7
 have:as_ 64 (45 :: U8 u) = .ok (-(u:Int)):=by
  unfold as_
  simp only
  have h45:(45:UInt8).toNat=45:=rfl
  rw[S6 (.inr h45),hp]
  simp only
  rw[S4 (by omega),S4 (by omega),S6 h45]
 rw[this]
def cV (w:af):aI :=
 if([39]:af).isPrefixOf w=true then vT (ba (w.drop 1)) else
 if w=gX then vB (decide (w=gn)) else
 if w=gn then vB (decide (w=gn)) else
 if([35]:af).isPrefixOf w=true then(if dN w=0 then v0 else vE (dN w)) else
 if w≠[] then vN (b7 w).1 else v0
theorem yp {v:aI} {w:af} (h:v.2.2.1.size≤9223372036854775807):((fJ v).bind fun z2=>(if(!z2.1.1)=true then(some (((0,0,(⟨#[]⟩:S0),()),false,()),(()))) else((ey v).bind fun z3=>(if(!(S2 z3.1.1 == S2 (ba w)))=true then(some (((0,0,(⟨#[]⟩:S0),()),false,()),(()))) else(some ((v,true,()),(())))))))=some ((if bm v=true∧dy v=ba w then v else v0,decide (bm v=true∧dy v=ba w),()),()):=by
 rw[sn h]
 simp only[S1]
 cases ho:bm v with
 | false=>simp; rfl
 | true =>
  rw[v7 ho]
  simp only[S1,V6,S9,U6,j0,true_and]
  by_cases hv:dy v=ba w
  ·simp[hv]
  ·simp[hv]; rfl
theorem QS {w:af} (hc : ∀ v:aI,bm v=true→dy v=ba w→cV w=v):(if bm (cV w)=true∧dy (cV w)=ba w then cV w else v0)=(bP w).1∧decide (bm (cV w)=true∧dy (cV w)=ba w)=(bP w).2:=by
 by_cases h:bm (cV w)=true∧dy (cV w)=ba w
 ·have:=K5 h.1
  rw[h.2,dq] at this
  rw[S6 h,U2 h,this]
  exact⟨rfl,rfl⟩
 ·rw[S4 h,U9 h]
  cases h2:(bP w).2 with
  | false=>rw[OB h2]; exact⟨rfl,rfl⟩
  | true =>
   obtain⟨k1,k2⟩:=qS h2
   refine V2 ?_ h
   rw[hc _ k1 k2]
   exact⟨k1,k2⟩
theorem PT {v:aI} (h:bm v=true):cV (lb (dy v))=v:=by
 rcases su h with rfl | ⟨n,rfl,h0,h1⟩ | ⟨s,rfl⟩ | ⟨b,rfl⟩ | ⟨n,rfl,h0⟩
 ·rfl
 ·have e:dy (vN n)=d8 n:=rfl
  rw[e]
  by_cases hn:n < 0
  ·rw[xF hn,dq]
   unfold cV
   rw[S4 (by simp),S4 (by unfold gX; simp),S4 (by unfold gn; simp),S4 (by simp),S6 (by simp),K7 (by omega)]
   congr 1
   simp only
   omega
  ·rw[show n=(n.toNat:Int) by omega,m6,dq]
   obtain⟨d1,d2,d3,d4,d5,d6⟩:=GI (u:=n.toNat)
   have hp:=K6 (u:=n.toNat) (by omega)
   obtain⟨y,l,hy,hd⟩:=BZ n.toNat
   rw[hy] at d1 d2 d3 d4 d5 d6 hp ⊢
   unfold cV
   rw[S4 (by rw[eU]; simpa using d2),S4 d6,S4 d5,S4 (by rw[eU]; simpa using d3),S6 d1,hp]
 ·have e:lb (dy (vT s))=39 :: lb s:=by
   show lb ((⟨#[39]⟩:S0)++s)=_
   rw[←jc s,show(⟨#[39]⟩:S0)=ba [39] from rfl,og,dq]
   simp
  rw[e]
  unfold cV
  rw[S6 (by simp)]
  simp only[X5,Z7,jc]
 ·cases b <;> rfl
 ·have e:lb (dy (vE (n.val:Int)))=lb (c8 (n.val:Int)):=rfl
  rw[e]
  have h1 : ∀ n:Fin 6,1≤n.val→([39]:af).isPrefixOf (lb (c8 (n.val:Int)))=false∧([35]:af).isPrefixOf (lb (c8 (n.val:Int)))=true∧lb (c8 (n.val:Int))≠gn∧lb (c8 (n.val:Int))≠gX:=by decide +kernel
  obtain⟨a1,a2,a3,a4⟩:=h1 n h0
  unfold cV
  rw[S4 (by rw[a1]; decide),S4 a4,S4 a3,S6 a2,D8 n h0,S4 (by omega)]
theorem tQ {w:af} {n:Int} (h0:0≤n) (h1:n≤5) {a b d e:Int} {c f:S0}:fb (ba w) n a b c d e f=fb (ba w) (n+1) a b c (if c8 n=ba w then 4 else d) (if c8 n=ba w then n else e) (if c8 n=ba w then eS else f):=by
 rw[qG,aC h1,oD h0 h1]
 simp only[S1,j0,T0,D3]
 rw[wr (by omega) (by omega)]
 split <;> rfl
theorem CY {α:Type} (w:af) (f:Int→α) (z:α) (hz:z=f 0):(if c8 5=ba w then f 5 else if c8 4=ba w then f 4 else if c8 3=ba w then f 3 else if c8 2=ba w then f 2 else if c8 1=ba w then f 1 else z)=f (dN w):=by
 unfold dN
 subst hz
 repeat' split <;> first | rfl | skip
theorem RN {w:af}:fb (ba w) 1 0 0 eS 0 0 eS=some ((if bm (if dN w=0 then v0 else vE (dN w))=true∧dy (if dN w=0 then v0 else vE (dN w))=ba w then(if dN w=0 then v0 else vE (dN w)) else v0,decide (bm (if dN w=0 then v0 else vE (dN w))=true∧dy (if dN w=0 then v0 else vE (dN w))=ba w),()),()):=by
 rw[tQ (by decide) (by decide),tQ (by decide) (by decide),tQ (by decide) (by decide),tQ (by decide) (by decide),tQ (by decide) (by decide),qG,ax (by decide)]
 have e1:=CY w (fun n=>if n=0 then(0:Int) else 4) 0 (by simp)
 have e2:=CY w (fun n=>n) 0 rfl
 have e3:=CY w (fun n=>eS) eS rfl
 simp only[show(1:Int)+1=2 from rfl,show(2:Int)+1=3 from rfl,show(3:Int)+1=4 from rfl,show(4:Int)+1=5 from rfl]
 simp only[show(5:Int)=0↔False by decide,show(4:Int)=0↔False by decide,show(3:Int)=0↔False by decide,show(2:Int)=0↔False by decide,show(1:Int)=0↔False by decide,U6] at e1
 rw[e1,e2,e3]
 have e:((if dN w=0 then(0:Int) else 4),dN w,eS,())=(if dN w=0 then v0 else vE (dN w)):=by
  by_cases h:dN w=0
  ·rw[S6 h,S6 h,h]
   rfl
  ·rw[S4 h,S4 h]
   rfl
 rw[e]
 exact yp (by split <;> (show eS.size≤_; decide))
theorem oG {w:af} (hw:w.length≤281474976710656):im (ba w)=some (((bP w).1,(bP w).2,()),()):=by
 obtain⟨p1,p2⟩:=QS (w:=w) (fun v h1 h2=>by have:=PT h1; rw[h2,dq] at this; exact this)
 have gb : ∀ v:aI,cV w=v→(some ((if bm v=true∧dy v=ba w then v else v0,decide (bm v=true∧dy v=ba w),()),()):Option ((aI×Bool×Unit)×Unit))=some (((bP w).1,(bP w).2,()),()):=by
  rintro v rfl
  rw[p1,p2]
 have hv:=cV.eq_def w
 have e1:(S2 (ba w) == S2 (⟨#[84,82,85,69]⟩:S0))=decide (w=gn):=di (b:=gn)
 have e2:(S2 (ba w) == S2 (⟨#[70,65,76,83,69]⟩:S0))=decide (w=gX):=di (b:=gX)
 have e0:(S2 (ba w) == S2 (⟨#[]⟩:S0))=decide (w=[]):=di (b:=[])
 rw[E1,show(⟨#[39]⟩:S0)=ba [39] from rfl,rJ w [39] (by omega),show(⟨#[35]⟩:S0)=ba [35] from rfl,oh w [35] (by omega),e0,e1,e2]
 simp only[S1,MJ]
 cases h39:([39]:af).isPrefixOf w with
 | true =>
  rw[S6 h39] at hv
  simp only[V4]
  refine(yp (v:=vT (ba (w.drop 1))) ?_).trans (gb _ hv)
  show(ba _).size≤_
  rw[aN]
  simp
  omega
 | false =>
  rw[S4 (by rw[h39]; decide)] at hv
  simp only[S9,U6]
  by_cases hf:w=gX
  ·rw[S6 hf] at hv
   rw[aC hf]
   exact(yp (v:=vB (decide (w=gn))) (by show eS.size≤_; decide)).trans (gb _ hv)
  ·rw[S4 hf] at hv
   rw[ax hf]
   by_cases ht:w=gn
   ·rw[S6 ht] at hv
    rw[aC ht]
    exact(yp (v:=vB (decide (w=gn))) (by show eS.size≤_; decide)).trans (gb _ hv)
   ·rw[S4 ht] at hv
    rw[ax ht]
    cases h35:([35]:af).isPrefixOf w with
    | true =>
     rw[S6 h35] at hv
     simp only[V4]
     exact RN.trans (gb _ hv)
    | false =>
     rw[S4 (by rw[h35]; decide)] at hv
     simp only[S9,U6]
     by_cases he:w=[]
     ·rw[S4 (by simpa using he)] at hv
      simp only[he,Y2,V6,S9,U6]
      rw[he] at hv gb
      exact(yp (v:=v0) (w:=[]) (by decide)).trans (gb _ hv)
     ·rw[S6 he] at hv
      simp only[he,Z0,W0,V4,sr hw,S1,BL]
      exact(yp (v:=vN (b7 w).1) (by show eS.size≤_; decide)).trans (gb _ hv)
def Pl (c:UInt8):Bool:=decide (c=32)
def bl (l:af):af:=l.dropWhile Pl
def bg (c:UInt8):Bool:=dX c || da c || decide (c=36)
theorem QT:(fun c=>([32]:af).contains c)=Pl:=funext fun c=>Ac (p:=fun c=>([32]:af).contains c=Pl c) (by decide +kernel) c
theorem QU:(fun c=>([65,66,67,68,69,70,71,72,73,74,75,76,77,78,79,80,81,82,83,84,85,86,87,88,89,90,48,49,50,51,52,53,54,55,56,57,36]:af).contains c)=bg:=funext fun c=>Ac (p:=fun c=>([65,66,67,68,69,70,71,72,73,74,75,76,77,78,79,80,81,82,83,84,85,86,87,88,89,90,48,49,50,51,52,53,54,55,56,57,36]:af).contains c=bg c) (by decide +kernel) c
theorem B0 (p:UInt8→Bool) : ∀ l:af,(l.dropWhile p).dropWhile p=l.dropWhile p
 | []=>rfl
 | c :: l=>by
  cases h:p c with
  | true=>rw[ci_ h,B0 p l]
  | false =>
   have h' : ¬p c=true:=by rw[h]; decide
   rw[Z4 h',Z4 h']
theorem cW (l:af):bl (bl l)=bl l:=B0 _ _
theorem av (l:af):bl l <:+ l:=dk_ _
theorem aG {a b:af} (h:a <:+ b):a.length≤b.length:=h.length_le
theorem mt (l:af) (b:Bool) (ns:List ab):fB (ba l) b ns=some ((),((ba (bl l),ns,b,()),())):=by
 rw[yG,show(⟨#[32]⟩:S0)=ba [32] from rfl,sq _ _ (by decide +kernel),QT]
 rfl
def Pm:List af:=[[60,62],[60,61],[62,61],[60],[62],[61],[38],[43],[45],[42],[47],[40],[41],[44],[58]]
def sg (l:af):af:=(Pm.find? fun p=>p.isPrefixOf l).getD []
theorem B1 {l:af} {b:Bool} {ns:List ab} (hl:l.length≤1000) {X:List S0} (hX:X.length≤100) : ∀(ys:List af) (pre:List S0),X=pre++ys.map (fun x=>ba x)→jb (X.length:Int) (pre.length:Int) (ba l) b X ns=some ((ba ((ys.find? fun p=>p.isPrefixOf l).getD []),()),((ba l,ns,b,()),()))
 | [],pre,h=>by
  rw[oc,ax (bQ (by simpa using h))]
  rfl
 | y :: ys,pre,h=>by
  have h':X=pre++ba y :: ys.map (fun x=>ba x):=by simpa using h
  have hd:V5 X (V1 (pre.length:Int)) (⟨#[]⟩:S0)=ba y:=by rw[h']; exact jO
  rw[oc,aC (bq h'),fN h',hd,oh _ _ (by omega)]
  simp only[S1,ai_]
  cases hy:y.isPrefixOf l with
  | true=>rfl
  | false =>
   simp only[S9,U6]
   rw[aL h' (by omega)]
   exact B1 hl hX ys (pre++[ba y]) (by rw[h']; simp)
theorem GJ {l:af} {b:Bool} {ns:List ab} (hl:l.length≤1000):mb (ba l) b ns=some ((ba (sg (bl l)),()),((ba (bl l),ns,b,()),())):=by
 rw[BA,mt]
 simp only[S1]
 have:=aG (av l)
 exact B1 (by omega) (by decide) Pm [] rfl
theorem GK (l:af):(sg l).isPrefixOf l=true:=by
 unfold sg
 cases h:Pm.find? fun p=>p.isPrefixOf l with
 | none=>simp
 | some p =>
  have:=List.find?_some h
  simpa using this
theorem yq {p l:af} (h:p.isPrefixOf l=true):p.length≤l.length:=(ay_.1 h).length_le
theorem dl {l w:af} {b:Bool} {ns:List ab} (hl:l.length≤1000):bC (ba w) (ba l) b ns=some ((decide (sg (bl l)=w),()),((ba (if sg (bl l)=w then(bl l).drop w.length else bl l),ns,b,()),())):=by
 rw[BB,GJ hl]
 simp only[S1,di]
 by_cases h:sg (bl l)=w
 ·have:=yq (GK (bl l))
  rw[h] at this
  simp only[h,Y2,V6,S9,U6,V4,aN]
  rw[fj this]
 ·simp[h]
def gO (y:UInt8) (a b:Bool):Int:=if y=60 then(if a=true then 7 else if b=true then 9 else 8) else if y=62 then(if b=true then 11 else 10) else if y=61 then 6 else if y=38 then 5 else if y=43 then 1 else if y=45 then 2 else if y=42 then 3 else if y=47 then 4 else 0
def gS (y:UInt8) (a b:Bool):af:=if y=60 then(if a=true then [60,62] else if b=true then [60,61] else [60]) else if y=62 then(if b=true then [62,61] else [62]) else if y=61 then [61] else if y=38 then [38] else if y=43 then [43] else if y=45 then [45] else if y=42 then [42] else if y=47 then [47] else if y=40 then [40] else if y=41 then [41] else if y=44 then [44] else if y=58 then [58] else []
def ew (l:af):Int:=match l with
 | []=>0
 | y :: t=>gO y (decide (t.head? = some 62)) (decide (t.head? = some 61))
def dz (k:Int):af:=([[],[43],[45],[42],[47],[38],[61],[60,62],[60],[60,61],[62],[62,61]]:List af).getD k.toNat []
theorem CZ (y:UInt8) (t:af):sg (y :: t)=gS y (decide (t.head? = some 62)) (decide (t.head? = some 61)):=by
 unfold sg Pm
 simp only[ai_,List.find?_nil,eU,Ab]
 generalize decide (t.head? = some 62)=a
 generalize decide (t.head? = some 61)=b
 have : ∀ a b:Bool,(Option.getD (match decide (y=60) && a with | true=>some [60,62] | false=>match decide (y=60) && b with | true=>some [60,61] | false=>match decide (y=62) && b with | true=>some [62,61] | false=>match decide (y=60) with | true=>some [60] | false=>match decide (y=62) with | true=>some [62] | false=>match decide (y=61) with | true=>some [61] | false=>match decide (y=38) with | true=>some [38] | false=>match decide (y=43) with | true=>some [43] | false=>match decide (y=45) with | true=>some [45] | false=>match decide (y=42) with | true=>some [42] | false=>match decide (y=47) with | true=>some [47] | false=>match decide (y=40) with | true=>some [40] | false=>match decide (y=41) with | true=>some [41] | false=>match decide (y=44) with | true=>some [44] | false=>match decide (y=58) with | true=>some [58] | false=>none) []:af)=gS y a b :=
  Ac (p:=fun y => ∀ a b:Bool,(Option.getD (match decide (y=60) && a with | true=>some [60,62] | false=>match decide (y=60) && b with | true=>some [60,61] | false=>match decide (y=62) && b with | true=>some [62,61] | false=>match decide (y=60) with | true=>some [60] | false=>match decide (y=62) with | true=>some [62] | false=>match decide (y=61) with | true=>some [61] | false=>match decide (y=38) with | true=>some [38] | false=>match decide (y=43) with | true=>some [43] | false=>match decide (y=45) with | true=>some [45] | false=>match decide (y=42) with | true=>some [42] | false=>match decide (y=47) with | true=>some [47] | false=>match decide (y=40) with | true=>some [40] | false=>match decide (y=41) with | true=>some [41] | false=>match decide (y=44) with | true=>some [44] | false=>match decide (y=58) with | true=>some [58] | false=>none) []:af)=gS y a b) (by decide +kernel) y
 exact this a b
theorem kA {c:UInt8} (hc:c=45∨c=40∨c=41∨c=44∨c=58) (l:af):(sg l=[c])=(l.head? = some c):=by
 apply propext
 constructor
 ·intro h
  have:=GK l
  rw[h,Aa] at this
  exact of_decide_eq_true this
 ·intro h
  cases l with
  | nil=>cases h
  | cons y t =>
   simp only[ah_,U3] at h
   subst h
   rw[CZ]
   rcases hc with rfl | rfl | rfl | rfl | rfl <;> rfl
def QV (s:af):Int:=if dz 11=s then 11 else if dz 10=s then 10 else if dz 9=s then 9 else if dz 8=s then 8 else if dz 7=s then 7 else if dz 6=s then 6 else if dz 5=s then 5 else if dz 4=s then 4 else if dz 3=s then 3 else if dz 2=s then 2 else if dz 1=s then 1 else 0
theorem GL (y:UInt8) : ∀ a b:Bool,QV (gS y a b)=gO y a b∧(gO y a b≠0→gS y a b=dz (gO y a b))∧0≤gO y a b∧gO y a b≤11 :=
 Ac (p:=fun y => ∀ a b:Bool,QV (gS y a b)=gO y a b∧(gO y a b≠0→gS y a b=dz (gO y a b))∧0≤gO y a b∧gO y a b≤11) (by decide +kernel) y
theorem QW (l:af):QV (sg l)=ew l:=by
 cases l with
 | nil=>decide
 | cons y t =>
  rw[CZ]
  exact(GL y _ _).1
theorem vh {l:af} (h:ew l≠0):sg l=dz (ew l):=by
 cases l with
 | nil=>exact V2 rfl h
 | cons y t =>
  rw[CZ]
  exact(GL y _ _).2.1 h
theorem oj (l:af):0≤ew l∧ew l≤11:=by
 cases l with
 | nil=>decide
 | cons y t=>exact(GL y _ _).2.2
theorem vi {k:Int} (h0:0≤k) (h1:k≤11):tq k=some ((ba (dz k),()),()):=by
 rw[KP,jz h0 (by show k < 12; omega)]
 have : ∀ k:Fin 12,V5 ([(⟨#[]⟩:S0),(⟨#[43]⟩:S0),(⟨#[45]⟩:S0),(⟨#[42]⟩:S0),(⟨#[47]⟩:S0),(⟨#[38]⟩:S0),(⟨#[61]⟩:S0),(⟨#[60,62]⟩:S0),(⟨#[60]⟩:S0),(⟨#[60,61]⟩:S0),(⟨#[62]⟩:S0),(⟨#[62,61]⟩:S0)]:(List S0)) k.val (⟨#[]⟩:S0)=ba (dz (k.val:Int)):=by decide +kernel
 have h:=this ⟨k.toNat,by omega⟩
 simp only[ak_ h0] at h
 rw[h]
theorem pi {k:Int} (h0:0≤k) (h1:k≤11):iV k=some ((ba (dz k),()),()):=by
 rw[KB,jz h0 (by show k < 12; omega)]
 have : ∀ k:Fin 12,V5 ([(⟨#[]⟩:S0),(⟨#[43]⟩:S0),(⟨#[45]⟩:S0),(⟨#[42]⟩:S0),(⟨#[47]⟩:S0),(⟨#[38]⟩:S0),(⟨#[61]⟩:S0),(⟨#[60,62]⟩:S0),(⟨#[60]⟩:S0),(⟨#[60,61]⟩:S0),(⟨#[62]⟩:S0),(⟨#[62,61]⟩:S0)]:(List S0)) k.val (⟨#[]⟩:S0)=ba (dz (k.val:Int)):=by decide +kernel
 have h:=this ⟨k.toNat,by omega⟩
 simp only[ak_ h0] at h
 rw[h]
theorem D9 {least deep left op k:Int} {l:af} {b:Bool} {ns:List ab} (hl:l.length≤1000) (h0:0≤k) (h1:k≤11) :
  ca least deep left op k (ba l) b ns=ca least deep left (if dz k=sg (bl l) then k else op) (k+1) (ba (bl l)) b ns:=by
 rw[mm,aC h1,GJ hl]
 simp only[S1]
 rw[vi h0 h1]
 simp only[S1,di,T0]
 rw[wr (by omega) (by omega)]
 by_cases h:sg (bl l)=dz k
 ·rw[S6 h,S6 h.symm]
 ·rw[S4 h,S4 (Ne.symm h)]
theorem Ag {least deep left:Int} {l:af} {b:Bool} {ns:List ab} (hl:l.length≤1000) :
  ca least deep left 0 1 (ba l) b ns=ca least deep left (ew (bl l)) 12 (ba (bl l)) b ns:=by
 have:=aG (av l)
 have st : ∀(op k:Int),0≤k→k≤11→ca least deep left op k (ba (bl l)) b ns=ca least deep left (if dz k=sg (bl l) then k else op) (k+1) (ba (bl l)) b ns:=by
  intro op k h0 h1
  rw[D9 (by omega) h0 h1,cW]
 rw[D9 hl (by decide) (by decide),st _ (1+1) (by decide) (by decide),st _ (1+1+1) (by decide) (by decide),st _ (1+1+1+1) (by decide) (by decide),st _ (1+1+1+1+1) (by decide) (by decide),st _ (1+1+1+1+1+1) (by decide) (by decide),
  st _ (1+1+1+1+1+1+1) (by decide) (by decide),st _ (1+1+1+1+1+1+1+1) (by decide) (by decide),st _ (1+1+1+1+1+1+1+1+1) (by decide) (by decide),st _ (1+1+1+1+1+1+1+1+1+1) (by decide) (by decide),st _ (1+1+1+1+1+1+1+1+1+1+1) (by decide) (by decide)]
 rw[←QW (bl l)]
 rfl
def bF (s l:af):Int:=(s.length:Int) - (l.length:Int)
theorem ld {s l:af} (h:l <:+ s) : ∃ pre,s=pre++l∧bF s l=(pre.length:Int):=by
 obtain⟨pre,h⟩:=h
 refine⟨pre,h.symm,?_⟩
 unfold bF
 rw[←h,S5]
 omega
theorem B2 {s:af} {b:Bool} {ns:List ab} (hs:s.length≤1000) : ∀(l:af),l <:+ s→ja (ba s) (bF s l) b ns=some ((),((ba s,bF s (bl l),b,ns,()),()))
 | [],h=>by
  rw[n9,ax (by rw[aN]; unfold bF; simp)]
  rfl
 | c :: l,h=>by
  obtain⟨pre,h1,h2⟩:=ld h
  have hl:pre.length < s.length:=by rw[h1]; simp
  rw[n9,h2,aC (by rw[aN]; omega),gm h1]
  by_cases hc:c=32
  ·subst hc
   have hl':l <:+ s:=List.IsSuffix.trans (List.suffix_cons _ _) h
   rw[S6 (by rfl),wr (by omega) (by omega)]
   have e:(pre.length:Int)+1=bF s l:=by
    rw[←h2]
    unfold bF
    rw[T3]
    omega
   rw[e,B2 hs l hl']
   rfl
  ·have h0' : ¬((c.toNat:Int) == 32)=true:=by
    simp only[X3]
    intro e
    apply hc
    apply UInt8.toNat_inj.1
    show c.toNat=32
    omega
   rw[S4 h0',←h2]
   have:bl (c :: l)=c :: l:=Z4 (by simp[Pl,hc])
   rw[this]
theorem GM {s l:af} {b:Bool} {ns:List ab} (hs:s.length≤1000) (h:l <:+ s):gM (ba s) (bF s l) b ns=some ((),((ba s,bF s (bl l),b,ns,()),())):=by
 rw[Bs]
 exact B2 hs l h
theorem ae {a b c:af} (h:a <:+ b) (k:b <:+ c):a <:+ c:=List.IsSuffix.trans h k
theorem ep (n:Nat) (l:af):l.drop n <:+ l:=List.drop_suffix n l
theorem fO {s l w:af} {b:Bool} {ns:List ab} (hs:s.length≤1000) (hw:w.length≤1000) (h:l <:+ s) :
  cY (ba w) (ba s) (bF s l) b ns=some (((!b && w.isPrefixOf (bl l)),()),((ba s,bF s (if(!b && w.isPrefixOf (bl l))=true then(bl l).drop w.length else bl l),b,ns,()),())):=by
 have hb:=ae (av l) h
 rw[H6,GM hs h]
 simp only[S1]
 cases b with
 | true=>rfl
 | false =>
  simp only[S9,U6,W0,W6,aN]
  generalize bl l=m at hb
  obtain⟨pre,h1,h2⟩:=ld hb
  have hl:pre.length+m.length=s.length:=by rw[h1]; simp
  rw[h2,wr (by omega) (by omega)]
  by_cases hm:w.length≤m.length
  ·rw[ax (by omega),show(pre.length:Int)+(w.length:Int)=((pre.length+w.length:Nat):Int) by omega,tO (by omega) (by omega),di]
   have e:(s.take (pre.length+w.length)).drop pre.length=m.take w.length:=by
    rw[h1,cq_,dl_]
    simp
   rw[e]
   have e2:decide (m.take w.length=w)=w.isPrefixOf m:=by
    rw[Y7,T0,ay_,dy_]
    exact eq_comm
   rw[e2]
   cases w.isPrefixOf m with
   | true =>
    simp only[V6,S9,U6,V4]
    have e5:((pre.length+w.length:Nat):Int)=bF s (m.drop w.length):=by
     unfold bF
     rw[bu_]
     omega
    rw[e5]
   | false =>
    simp only[W0,V4,S9,U6]
    rw[h2]
  ·rw[aC (by omega)]
   have e2:w.isPrefixOf m=false:=by
    rw[ad_]
    intro hp
    exact hm (yq hp)
   rw[e2]
   simp only[S9,U6]
   rw[h2]
theorem vj {l:af} {b:Bool} {ns:List ab} (hl:l.length≤1000):gP (ba l) b ns=some ((ba ((bl l).takeWhile bg),()),((ba ((bl l).dropWhile bg),ns,b,()),())):=by
 have:=aG (av l)
 obtain⟨d1,d2,d3⟩:=xA bg (bl l)
 rw[BC,mt]
 simp only[S1]
 rw[sq _ _ (by decide +kernel),QU]
 simp only[S1,aN]
 rw[wr (by omega) (by omega),show((bl l).length:Int) - (((bl l).dropWhile bg).length:Int)=(((bl l).length - ((bl l).dropWhile bg).length:Nat):Int) by omega,BV (by omega),fj (by omega),d1,d2]
theorem Ea {s pre l:af} {w:Nat} {b:Bool} {ns:List ab} (h:s=pre++l) (hw:w≤pre.length) :
  (rk (ba s) (w:Int) (pre.length:Int) fun y6=>(some ((y6,()),((ba s,(pre.length:Int),b,ns,()),()))))=(some ((ba (pre.drop w),()),((ba s,bF s l,b,ns,()),())):Option ((S0×Unit)×(iU×Unit))):=by
 have hl:pre.length+l.length=s.length:=by rw[h]; simp
 rw[tO hw (by omega)]
 congr 3
 ·congr 1
  rw[h,du_ rfl]
 ·unfold bF
  congr 3
  omega
theorem B3 {s:af} {b:Bool} {ns:List ab} (hs:s.length≤1000) {w:Nat} : ∀(l pre:af),s=pre++l→w≤pre.length→db (w:Int) (ba s) (pre.length:Int) b ns=some ((ba (pre.drop w++l.takeWhile bg),()),((ba s,bF s (l.dropWhile bg),b,ns,()),()))
 | [],pre,h,hw=>by
  have hl:pre.length=s.length:=by rw[h]; simp
  rw[qw,ax (by rw[aN]; omega)]
  simpa using Ea (b:=b) (ns:=ns) h hw
 | y :: l,pre,h,hw=>by
  have hl:pre.length < s.length:=by rw[h]; simp
  have ih:=B3 (b:=b) (ns:=ns) hs (w:=w) l (pre++[y]) (by rw[h]; simp) (by rw[S5]; omega)
  rw[show((pre++[y]).length:Int)=(pre.length:Int)+1 by simp,List.drop_append_of_le_length hw] at ih
  have he:=Ea (b:=b) (ns:=ns) h hw
  rw[qw,aC (by rw[aN]; omega)]
  simp only[gm h]
  rw[wr (by omega) (by omega)]
  have h36:((y.toNat:Int) == 36)=decide (y=36):=by
   rw[Y7,X3,T0]
   constructor
   ·intro e
    apply UInt8.toNat_inj.1
    show y.toNat=36
    omega
   ·rintro rfl
    rfl
  rw[h36]
  cases hy:bg y with
  | true =>
   have e1:(y :: l).takeWhile bg=y :: l.takeWhile bg:=List.takeWhile_cons_of_pos hy
   have e2:(y :: l).dropWhile bg=l.dropWhile bg:=ci_ hy
   rw[e1,e2]
   have e3:pre.drop w++y :: l.takeWhile bg=pre.drop w++[y]++l.takeWhile bg:=by simp
   rw[e3,←ih]
   simp only[bg,dX,da,bd_,S8,T0] at hy
   by_cases c1:65≤y.toNat
   ·rw[aC (by omega)]
    by_cases c2:y.toNat≤90
    ·rw[aC (by omega)]
    ·rw[ax (by omega),aC (by omega),ax (by omega)]
     exfalso
     rcases hy with(hy | hy) | rfl
     ·omega
     ·omega
     ·exact V2 c1 (by decide)
   ·rw[ax (by omega)]
    by_cases c3:48≤y.toNat
    ·rw[aC (by omega)]
     by_cases c4:y.toNat≤57
     ·rw[aC (by omega)]
     ·rw[ax (by omega)]
      exfalso
      rcases hy with(hy | hy) | rfl
      ·omega
      ·omega
      ·exact V2 c3 (by decide)
    ·rw[ax (by omega)]
     have:y=36:=by
      rcases hy with(hy | hy) | hy
      ·omega
      ·omega
      ·exact hy
     rw[aC this]
  | false =>
   have e1:(y :: l).takeWhile bg=[]:=ch_ (by rw[hy]; decide)
   have e2:(y :: l).dropWhile bg=y :: l:=Z4 (by rw[hy]; decide)
   rw[e1,e2,W9,←he]
   simp only[bg,dX,da,Bool.or_eq_false_iff,Bool.and_eq_false_iff,decide_eq_false_iff_not] at hy
   obtain⟨⟨k1,k2⟩,k3⟩:=hy
   by_cases c1:65≤y.toNat
   ·rw[aC (by omega),ax (by omega),aC (by omega),ax (by omega),ax k3]
   ·rw[ax (by omega)]
    by_cases c3:48≤y.toNat
    ·rw[aC (by omega),ax (by omega),ax k3]
    ·rw[ax (by omega),ax k3]
theorem Ah {s l:af} {b:Bool} {ns:List ab} (hs:s.length≤1000) (h:l <:+ s):jU (ba s) (bF s l) b ns=some ((ba (l.takeWhile bg),()),((ba s,bF s (l.dropWhile bg),b,ns,()),())):=by
 obtain⟨pre,h1,h2⟩:=ld h
 rw[EL,h2,B3 hs l pre h1 (T7 _)]
 simp
def cT (k:Int):Int:=if k≥6 then 1 else if k=5 then 2 else if k≥3 then 4 else 3
theorem sw (k:Int):qe k=some ((cT k,()),()):=by
 rw[Ib]
 unfold cT
 simp only[T0,X3]
 repeat' split
 all_goals first | rfl | omega
theorem Eb {k:Int} (h0:1≤k) (h1:k≤11):xc k=some ((cT k,()),()):=by
 rw[MG]
 unfold cT
 simp only[X3]
 repeat' split
 all_goals first | rfl | omega
abbrev qU:List Int:=[7,9,11,6,8,10,1,2,3,4,5]
def wc (L:Int) (m:af) (k:Int):Bool:=decide (cT k=L) && (dz k).isPrefixOf m
theorem yr (k:Int):(dz k).length≤2:=by
 unfold dz
 have : ∀ i:Nat,(([[],[43],[45],[42],[47],[38],[61],[60,62],[60],[60,61],[62],[62,61]]:List af).getD i []).length≤2:=by
  intro i
  by_cases hi:i < 12
  ·have h : ∀ j:Fin 12,(([[],[43],[45],[42],[47],[38],[61],[60,62],[60],[60,61],[62],[62,61]]:List af).getD j.val []).length≤2:=by decide
   exact h ⟨i,hi⟩
  ·rw[List.getD_eq_getElem?_getD,List.getElem?_eq_none (by simp; omega)]
   simp
 exact this _
section
variable {s:af} {ns:List ab} {L:Int}
def vk (s l l':af) (ns:List ab):Option Int→Option ((Int×Unit)×(iU×Unit))
 | some k=>some ((k,()),((ba s,bF s ((bl l).drop (dz k).length),false,ns,()),()))
 | none=>some ((0,()),((ba s,bF s l',false,ns,()),()))
theorem QX {pre ys:List Int} {k:Int} (h:qU=pre++k :: ys):V5 qU (V1 (pre.length:Int)) 0=k:=by rw[h]; exact jO
theorem Ec {k:Int} (h:k∈qU):1≤k∧k≤11:=by
 have : ∀ k∈qU,1≤k∧k≤11:=by decide
 exact this k h
theorem xG (hs:s.length≤1000) : ∀(ys pre:List Int) (l:af),qU=pre++ys→l <:+ s → ∃ l',(l'=l∨l'=bl l)∧jx L (pre.length:Int) (ba s) (bF s l) false qU ns=vk s l l' ns (ys.find? (wc L (bl l)))
 | [],pre,l,h,hl=>by
  refine⟨l,.inl rfl,?_⟩
  rw[rB,ax (bQ h)]
  rfl
 | k :: ys,pre,l,h,hl=>by
  have hk:=Ec (k:=k) (by rw[h]; simp)
  rw[rB,aC (bq h),fN h,QX h,sw]
  simp only[S1,ai_,X3]
  by_cases hL:cT k=L
  ·rw[S6 hL,fN h,pi (by omega) (by omega)]
   simp only[S1]
   have:=yr k
   rw[fO hs (by omega) hl]
   simp only[S1,W0,W6]
   cases hp:(dz k).isPrefixOf (bl l) with
   | true =>
    simp only[V4,wc,hL,Y2,W6,hp]
    rw[fN h]
    exact⟨l,.inl rfl,rfl⟩
   | false =>
    simp only[S9,U6,wc,hL,Y2,W6,hp]
    rw[aL h (by decide)]
    obtain⟨l',h1,h2⟩:=xG hs ys (pre++[k]) (bl l) (aM h) (ae (av l) hl)
    rw[cW] at h1 h2
    refine⟨l',.inr (by simpa using h1),?_⟩
    rw[h2]
    unfold vk
    rw[cW]
  ·rw[S4 hL,aL h (by decide)]
   obtain⟨l',h1,h2⟩:=xG hs ys (pre++[k]) l (aM h) hl
   refine⟨l',h1,?_⟩
   rw[h2]
   simp[wc,hL]
theorem GN (hs:s.length≤1000) : ∀(ys pre:List Int) (l:af),qU=pre++ys→l <:+ s → ∃ l',(l'=l∨l'=bl l)∧nD L (pre.length:Int) (ba s) (bF s l) false ns qU=vk s l l' ns (ys.find? (wc L (bl l)))
 | [],pre,l,h,hl=>by
  refine⟨l,.inl rfl,?_⟩
  rw[tB,ax (bQ h)]
  rfl
 | k :: ys,pre,l,h,hl=>by
  have hk:=Ec (k:=k) (by rw[h]; simp)
  rw[tB,aC (bq h),fN h,QX h,sw]
  simp only[S1,ai_,X3]
  by_cases hL:cT k=L
  ·rw[S6 hL,fN h,pi (by omega) (by omega)]
   simp only[S1]
   have:=yr k
   rw[fO hs (by omega) hl]
   simp only[S1,W0,W6]
   cases hp:(dz k).isPrefixOf (bl l) with
   | true =>
    simp only[V4,wc,hL,Y2,W6,hp]
    rw[fN h]
    exact⟨l,.inl rfl,rfl⟩
   | false =>
    simp only[S9,U6,wc,hL,Y2,W6,hp]
    rw[aL h (by decide)]
    obtain⟨l',h1,h2⟩:=xG (L:=L) (ns:=ns) hs ys (pre++[k]) (bl l) (aM h) (ae (av l) hl)
    rw[cW] at h1 h2
    refine⟨l',.inr (by simpa using h1),?_⟩
    rw[h2]
    unfold vk
    rw[cW]
  ·rw[S4 hL,aL h (by decide)]
   obtain⟨l',h1,h2⟩:=GN hs ys (pre++[k]) l (aM h) hl
   refine⟨l',h1,?_⟩
   rw[h2]
   simp[wc,hL]
end
theorem B4 {α:Type} {p q:α→Bool} : ∀ {l:List α},(∀ x∈l,p x=q x)→l.find? p=l.find? q
 | [],_=>rfl
 | x :: l,h=>by
  rw[ai_,ai_,h x (by simp),B4 (fun y hy=>h y (List.mem_cons_of_mem _ hy))]
def pS (k:Int) (y:UInt8) (a b:Bool):Bool:=if k=7 then decide (y=60) && a else if k=9 then decide (y=60) && b else if k=11 then decide (y=62) && b else if k=6 then decide (y=61) else if k=8 then decide (y=60) else if k=10 then decide (y=62) else if k=1 then decide (y=43) else if k=2 then decide (y=45) else if k=3 then decide (y=42) else if k=4 then decide (y=47) else decide (y=38)
theorem RO (y:UInt8) (t:af) : ∀ k∈qU,(dz k).isPrefixOf (y :: t)=pS k y (decide (t.head? = some 62)) (decide (t.head? = some 61)):=by
 intro k hk
 have:k=7∨k=9∨k=11∨k=6∨k=8∨k=10∨k=1∨k=2∨k=3∨k=4∨k=5:=by simpa using hk
 rcases this with rfl | rfl | rfl | rfl | rfl | rfl | rfl | rfl | rfl | rfl | rfl
 ·exact Ab y t 60 62
 ·exact Ab y t 60 61
 ·exact Ab y t 62 61
 ·exact eU y t 61
 ·exact eU y t 60
 ·exact eU y t 62
 ·exact eU y t 43
 ·exact eU y t 45
 ·exact eU y t 42
 ·exact eU y t 47
 ·exact eU y t 38
def fS (L:Int) (y:UInt8) (a b:Bool):Prop:=qU.find? (fun k=>decide (cT k=L) && pS k y a b)=if gO y a b≠0∧cT (gO y a b)=L then some (gO y a b) else none
instance (L:Int) (y:UInt8) (a b:Bool):Decidable (fS L y a b):=by unfold fS; infer_instance
theorem QY (y:UInt8) : ∀ a b:Bool,fS 1 y a b∧fS 2 y a b∧fS 3 y a b∧fS 4 y a b :=
 Ac (p:=fun y => ∀ a b:Bool,fS 1 y a b∧fS 2 y a b∧fS 3 y a b∧fS 4 y a b) (by decide +kernel) y
theorem OC {L:Int} (hL:L=1∨L=2∨L=3∨L=4) (m:af):qU.find? (wc L m)=if ew m≠0∧cT (ew m)=L then some (ew m) else none:=by
 cases m with
 | nil =>
  have : ∀ k∈qU,(dz k).isPrefixOf ([]:af)=false:=by decide
  have h0:ew ([]:af)=0:=rfl
  rw[h0,S4 (by simp),List.find?_eq_none]
  intro k hk
  unfold wc
  rw[this k hk,Bool.and_false]
  decide
 | cons y t =>
  have e:qU.find? (wc L (y :: t))=qU.find? (fun k=>decide (cT k=L) && pS k y (decide (t.head? = some 62)) (decide (t.head? = some 61))):=B4 fun k hk=>by
   unfold wc
   rw[RO y t k hk]
  rw[e]
  obtain⟨h1,h2,h3,h4⟩:=QY y (decide (t.head? = some 62)) (decide (t.head? = some 61))
  rcases hL with rfl | rfl | rfl | rfl
  ·exact h1
  ·exact h2
  ·exact h3
  ·exact h4
theorem QZ {s l:af} {ns:List ab} {L:Int} (hs:s.length≤1000) (hL:L=1∨L=2∨L=3∨L=4) (h:l <:+ s) :
  ∃ l',(l'=l∨l'=bl l)∧zL L (ba s) (bF s l) false ns=vk s l l' ns (if ew (bl l)≠0∧cT (ew (bl l))=L then some (ew (bl l)) else none):=by
 rw[Ic,←OC hL]
 exact GN hs qU [] l rfl h
theorem yt {x:ab} {l:af} {b:Bool} {ns:List ab} (hn:ns.length≤60) :
  ∃ i,aX x (ba l) b ns=some ((i,()),((ba l,(if b=false∧ns.length < 60 then ns++[x] else ns),(b || decide (60≤ns.length)),()),()))∧(b=false→ns.length < 60→i=(ns.length:Int)):=by
 rw[CM]
 cases b with
 | true=>exact⟨_,rfl,fun h=>by cases h⟩
 | false =>
  simp only[S9,U6,true_and,cf_]
  by_cases h:ns.length < 60
  ·have e1:decide ((ns.length:Int)≥60)=false:=U9 (by omega)
   have e2:decide (60≤ns.length)=false:=U9 (by omega)
   rw[e1,e2,S6 h]
   simp only[W0,V4]
   have hl:(ns++[x]).length=ns.length+1:=by simp
   rw[bA (by simp only[S3]; omega),wr (by omega) (by omega)]
   exact⟨_,rfl,fun _ _=>by omega⟩
  ·have e1:decide ((ns.length:Int)≥60)=true:=U2 (by omega)
   have e2:decide (60≤ns.length)=true:=U2 (by omega)
   rw[e1,e2,S4 h]
   exact⟨_,rfl,fun _ h'=>V2 h' h⟩
theorem C0 {x:ab} {s:af} {a:Int} {b:Bool} {ns:List ab} (hn:ns.length≤1000) (hx:x.2.2.1.2.2.1.size≤9223372036854775807) :
  bW x (ba s) a b ns=some (((ns.length:Int),()),((ba s,a,(b || decide (60≤ns.length) || !ed x),ns++[x],()),())):=by
 rw[Gi,bA (by simp only[S3]; omega)]
 have e:IntKind.i64.wrap (((ns++[x]).length:Int) - 1)=(ns.length:Int):=by
  rw[S5,S3,wr (by omega) (by omega)]
  omega
 rw[e,xx hx]
 simp only[S1]
 by_cases h:60≤ns.length
 ·rw[aC (by rw[S5,S3]; omega)]
  simp[h]
 ·rw[ax (by rw[S5,S3]; omega)]
  cases ed x <;> simp[h]
theorem C1 (c:UInt8) (t:af) : ∀ pre:af,c ∉ pre→Lib.indexByte (pre++c :: t) c=(pre.length:Int)
 | [],_=>by simp[Lib.indexByte]
 | b :: pre,h=>by
  simp only[U7,not_or] at h
  have hb : ¬b=c:=fun e=>h.1 e.symm
  have ih:=C1 c t pre h.2
  simp only[be_,Lib.indexByte,ih]
  have : ¬((pre.length:Int) = -1):=by omega
  simp[hb,this]
theorem GO (c:UInt8) : ∀ pre:af,c ∉ pre→Lib.indexByte pre c = -1
 | [],_=>rfl
 | b :: pre,h=>by
  simp only[U7,not_or] at h
  have hb : ¬b=c:=fun e=>h.1 e.symm
  simp only[Lib.indexByte,GO c pre h.2]
  simp[hb]
theorem PU {c:UInt8} {pre t:af} (h:c ∉ pre):Lib.cut (pre++c :: t) [c]=(pre,t,true):=by
 unfold Lib.cut
 rw[Lib.index_one,C1 c t pre h,S6 (by omega)]
 simp only[Int.toNat_natCast,S3,Prod.mk.injEq,and_true]
 refine⟨du_ rfl,?_⟩
 have:pre++c :: t=(pre++[c])++t:=by simp
 rw[this,List.drop_left' (by simp)]
theorem OD {c:UInt8} {s:af} (h:c ∉ s):Lib.cut s [c]=(s,[],false):=by
 unfold Lib.cut
 rw[Lib.index_one,GO c s h,S4 (by omega)]
theorem PV {x c:af} (hx:x.length < 4294967281):strings_Cut (ba x) (ba c)=some ((ba (Lib.cut x c).1,ba (Lib.cut x c).2.1,(Lib.cut x c).2.2,()),()):=by
 rw[CN]
 show(if(ba x).size < 4294967281 then some (((⟨(Lib.cut (lb (ba x)) (lb (ba c))).1.toArray⟩:S0),(⟨(Lib.cut (lb (ba x)) (lb (ba c))).2.1.toArray⟩:S0),(Lib.cut (lb (ba x)) (lb (ba c))).2.2,()),()) else none)=_
 rw[S6 (by rw[aN]; exact hx),dq,dq]
theorem Ai (c:UInt8) : ∀ s:af,c∈s → ∃ pre t,s=pre++c :: t∧c ∉ pre
 | b :: s,h=>by
  by_cases hb:b=c
  ·exact⟨[],s,by rw[hb]; rfl,by simp⟩
  ·obtain⟨pre,t,h1,h2⟩:=Ai c s (by rcases U7.1 h with e | e; exact V2 e.symm hb; exact e)
   exact⟨b :: pre,t,by rw[h1]; rfl,by simp only[U7,not_or]; exact⟨Ne.symm hb,h2⟩⟩
def qt:af→Option (af×af)
 | []=>none
 | c :: l=>if c=34 then(match l with
   | []=>some ([],[])
   | d :: l'=>if d=34 then(qt l').map (fun p=>(34 :: p.1,p.2)) else some ([],d :: l'))
  else(qt l).map fun p=>(c :: p.1,p.2)
theorem Aj {c:UInt8} {l:af} (h:c≠34):qt (c :: l)=(qt l).map fun p=>(c :: p.1,p.2):=by
 rw[qt.eq_def]
 simp only[S4 h]
theorem GP:qt [34]=some ([],[]):=by
 rw[qt.eq_def]
 rfl
theorem GQ {l:af}:qt (34 :: 34 :: l)=(qt l).map fun p=>(34 :: p.1,p.2):=by
 rw[qt.eq_def]
 rfl
theorem C2 {d:UInt8} {l:af} (h:d≠34):qt (34 :: d :: l)=some ([],d :: l):=by
 rw[qt.eq_def]
 simp only[V4,S4 h]
theorem GR (l:af) : ∀ pre:af,(34:UInt8) ∉ pre→qt (pre++l)=(qt l).map fun p=>(pre++p.1,p.2)
 | [],_=>by simp
 | b :: pre,h=>by
  simp only[U7,not_or] at h
  have hb : ¬b=34:=fun e=>h.1 e.symm
  rw[be_,Aj hb,GR l pre h.2,Option.map_map]
  rfl
theorem PW {s:af} (h:(34:UInt8) ∉ s):qt s=none:=by
 have:=GR [] s h
 rw[W9] at this
 rw[this]
 rfl
theorem MV : ∀(l t r:af),qt l=some (t,r)→r <:+ l∧t.length≤l.length∧r.length < l.length:=by
 intro l
 induction hn:l.length using Nat.strongRecOn generalizing l with
 | ind n ih =>
  intro t r h
  subst hn
  cases l with
  | nil=>cases h
  | cons c l =>
   by_cases hc:c=34
   ·subst hc
    cases l with
    | nil =>
     rw[GP] at h
     cases h
     exact⟨⟨[34],rfl⟩,by simp,by simp⟩
    | cons d l' =>
     by_cases hd:d=34
     ·subst hd
      rw[GQ,Y8] at h
      obtain⟨⟨t',r'⟩,h1,h2⟩:=h
      cases h2
      obtain⟨k1,k2,k3⟩:=ih l'.length (by simp only[T3]; omega) l' rfl t' r' h1
      refine⟨ae k1 ⟨[34,34],rfl⟩,?_,?_⟩
      ·simp only[T3]; omega
      ·simp only[T3]; omega
     ·rw[C2 hd] at h
      cases h
      exact⟨⟨[34],rfl⟩,by simp,by simp⟩
   ·rw[Aj hc,Y8] at h
    obtain⟨⟨t',r'⟩,h1,h2⟩:=h
    cases h2
    obtain⟨k1,k2,k3⟩:=ih l.length (by simp) l rfl t' r' h1
    refine⟨ae k1 ⟨[c],rfl⟩,?_,?_⟩
    ·simp only[T3]; omega
    ·simp only[T3]; omega
abbrev nC (v:aI):ab:=(1,0,v,((0,0,()),false,false,()),((0,0,()),false,false,()),([]:(List Int)),())
noncomputable def iQ (out:af) (r:S0) (b:Bool) (ns:List ab):Option (af×af)→Option ((Int×Unit)×(mR×Unit))
 | none=>some ((-1,()),((r,ns,true,()),()))
 | some p=>bN (2,0,ba (out++p.1),()) (ba p.2) b ns
theorem yu {F:Option ((Int×Unit)×(mR×Unit))}:(F.bind fun z3=>(some ((z3.1.1,()),(z3.2.1,()))))=F:=by
 cases F with
 | none=>rfl
 | some z=>rfl
theorem fd {F:Option ((Int×Unit)×(iU×Unit))}:(F.bind fun z3=>(some ((z3.1.1,()),(z3.2.1,()))))=F:=by
 cases F with
 | none=>rfl
 | some z=>rfl
theorem GS {r:S0} {b:Bool} {ns:List ab} : ∀(x out:af),out.length+x.length≤1000→gE (ba out) (ba x) r b ns=iQ out r b ns (qt x):=by
 intro x
 induction hn:x.length using Nat.strongRecOn generalizing x with
 | ind n ih =>
  intro out hl
  rw[vc,show(⟨#[34]⟩:S0)=ba [34] from rfl,PV (by omega)]
  simp only[S1]
  by_cases hm:(34:UInt8)∈x
  ·obtain⟨pre,t,h1,h2⟩:=Ai 34 x hm
   have hx:x.length=pre.length+t.length+1:=by rw[h1]; simp; omega
   rw[h1,PU h2,GR _ pre h2]
   simp only[V6,S9,U6]
   rw[bz (by omega),oh t [34] (by omega)]
   simp only[S1,yu]
   cases t with
   | nil =>
    rw[GP,show([34]:af).isPrefixOf ([]:af)=false from rfl]
    simp[iQ]
   | cons d l' =>
    by_cases hd:d=34
    ·subst hd
     rw[T3] at hx
     have e1:([34]:af).isPrefixOf (34 :: l')=true:=by rw[eU]; rfl
     rw[e1]
     simp only[V6,S9,U6]
     rw[bz (by simp only[S5,S3]; omega),show(1:Int)=((1:Nat):Int) from rfl,fj (by simp)]
     simp only[X5,Z7]
     rw[ih l'.length (by omega) l' rfl (out++pre++[34]) (by simp only[S5,S3]; omega)]
     rw[GQ]
     cases qt l' with
     | none=>rfl
     | some p=>simp[iQ]
    ·have e1:([34]:af).isPrefixOf (d :: l')=false:=by rw[eU]; simp[hd]
     rw[e1]
     simp only[W0,V4]
     rw[C2 hd]
     simp[iQ]
  ·rw[OD hm,PW hm]
   rfl
theorem B5 {l:af} {b:Bool} {ns:List ab} (hl:l.length≤900):gN (ba (34 :: l)) b ns=iQ [] (ba (34 :: l)) b ns (qt l):=by
 rw[yH,show(1:Int)=((1:Nat):Int) from rfl,fj (by simp)]
 exact GS l [] (by simp; omega)
noncomputable def sQ (acc s:af) (b:Bool) (ns:List ab):Option (af×af)→Option ((Int×Unit)×(iU×Unit))
 | none=>some ((0,()),((ba s,bF s [],true,ns,()),()))
 | some p=>bW (nC (2,0,ba (acc++p.1),())) (ba s) (bF s p.2) b ns
theorem K8 {s:af} {b:Bool} {ns:List ab} (hs:s.length≤900) : ∀(l acc:af),l <:+ s→acc.length+l.length≤1000→iH (ba acc) (ba s) (bF s l) b ns=sQ acc s b ns (qt l):=by
 intro l
 induction hn:l.length using Nat.strongRecOn generalizing l with
 | ind n ih =>
  intro acc h ha
  subst hn
  rw[zV]
  cases l with
  | nil =>
   rw[ax (by rw[aN]; unfold bF; simp)]
   rfl
  | cons c l =>
   obtain⟨pre,h1,h2⟩:=ld h
   have hl:pre.length+l.length+1=s.length:=by rw[h1]; simp; omega
   rw[T3] at ha
   have h':l <:+ s:=ae ⟨[c],rfl⟩ h
   have e1:(pre.length:Int)+1=bF s l:=by
    unfold bF
    omega
   rw[h2,aC (by rw[aN]; omega),gm h1,wr (by omega) (by omega)]
   by_cases hc:c=34
   ·subst hc
    have e34:(((34:UInt8).toNat:Int) != 34)=false:=rfl
    rw[e34,e1]
    simp only[S9,U6,fd]
    cases l with
    | nil =>
     rw[GP,aC (by rw[aN]; unfold bF; simp)]
     simp[sQ]
    | cons d l' =>
     obtain⟨Ab,k1,k2⟩:=ld h'
     have hl2:Ab.length+l'.length+1=s.length:=by rw[k1]; simp; omega
     rw[T3] at ha
     have h'':l' <:+ s:=ae ⟨[d],rfl⟩ h'
     have e2:(Ab.length:Int)+1=bF s l':=by
      unfold bF
      omega
     rw[k2,ax (by rw[aN]; omega),gm k1]
     by_cases hd:d=34
     ·subst hd
      rw[e34,GQ]
      simp only[S9,U6]
      rw[show(⟨#[34]⟩:S0)=ba [34] from rfl,bz (by simp only[S3]; omega),wr (by omega) (by omega),e2,ih l'.length (by simp only[T3]; omega) l' rfl (acc++[34]) h'' (by simp only[S5,S3]; omega)]
      cases qt l' with
      | none=>rfl
      | some p=>simp[sQ]
     ·have hd':((d.toNat:Int) != 34)=true:=by
       simp only[bne_iff_ne,ne_eq]
       intro e
       apply hd
       apply UInt8.toNat_inj.1
       show d.toNat=34
       omega
      rw[hd',C2 hd]
      simp only[V4]
      rw[←k2]
      simp[sQ]
   ·have hc':((c.toNat:Int) != 34)=true:=by
     simp only[bne_iff_ne,ne_eq]
     intro e
     apply hc
     apply UInt8.toNat_inj.1
     show c.toNat=34
     omega
    rw[hc']
    simp only[V4]
    rw[show(pre.length:Int)+1=((pre.length+1:Nat):Int) by omega,tO (by omega) (by omega)]
    have e3:(s.take (pre.length+1)).drop pre.length=[c]:=by
     rw[h1,cq_,dl_]
     simp
    rw[e3,bz (by simp only[S3]; omega),show((pre.length+1:Nat):Int)=bF s l by omega,ih l.length (by simp) l rfl (acc++[c]) h' (by simp only[S5,S3]; omega)]
    rw[Aj hc]
    cases qt l with
    | none=>rfl
    | some p=>simp[sQ]
theorem OE {s l:af} {b:Bool} {ns:List ab} (hs:s.length≤900) (h:l <:+ s):uK (ba s) (bF s l) b ns=sQ [] s b ns (qt l):=by
 rw[EK]
 have:=aG h
 exact K8 hs l [] h (by simp; omega)
def lC (n:Int):af:=(lb (c8 n)).drop 1
abbrev tR:List Int:=[1,2,3,4,5]
def tS (l:af) (n:Int):Bool:=(lC n).isPrefixOf l
theorem MW {pre ys:List Int} {k:Int} (h:tR=pre++k :: ys):k=(pre.length:Int)+1∧1≤k∧k≤5∧c8 k=ba (35 :: lC k)∧(lC k).length≤10:=by
 have h1:tR[pre.length]? = some k:=by rw[h]; simp
 have hl:pre.length < 5:=by
  have:(tR).length=5:=rfl
  have h2:=T4 T5 h
  simp at h2
  omega
 have : ∀ i:Fin 5,∀ k,tR[i.val]? = some k→k=(i.val:Int)+1:=by
  intro i k h
  have : ∀ i:Fin 5,tR[i.val]? = some ((i.val:Int)+1):=by decide
  rw[this i] at h
  exact(X0 h).symm
 have e:=this ⟨pre.length,hl⟩ k h1
 simp only at e
 have f : ∀ i:Fin 5,c8 ((i.val:Int)+1)=ba (35 :: lC ((i.val:Int)+1))∧(lC ((i.val:Int)+1)).length≤10:=by decide +kernel
 have:=f ⟨pre.length,hl⟩
 simp only at this
 rw[←e] at this
 exact⟨e,by omega,by omega,this.1,this.2⟩
theorem Ed {deep:Int} {l:af} {b:Bool} {ns:List ab} (hl:l.length≤900) : ∀(ys pre:List Int),tR=pre++ys→cR deep ((pre.length:Int)+1) (ba (35 :: l)) b ns=match ys.find? (tS l) with
  | some n=>bN (vE n) (ba (l.drop (lC n).length)) b ns
  | none=>cR deep 6 (ba (35 :: l)) b ns
 | [],pre,h=>by
  have:pre.length=5:=by
   rw[W9] at h
   rw[←h]
   rfl
  rw[this]
  rfl
 | k :: ys,pre,h=>by
  obtain⟨e1,e2,e3,e4,e5⟩:=MW h
  rw[←e1,od,aC e3,oD (by omega) e3]
  simp only[S1]
  rw[e4,rJ _ _ (by rw[T3]; omega)]
  simp only[S1,ai_]
  have e6:(35 :: lC k:af).isPrefixOf (35 :: l)=tS l k:=by simp[tS]
  rw[e6]
  cases hp:tS l k with
  | true =>
   simp only[V4,D3,S1,yu,T3,X5]
  | false =>
   simp only[S9,U6]
   rw[wr (by omega) (by omega)]
   have:=Ed (deep:=deep) (b:=b) (ns:=ns) hl ys (pre++[k]) (aM h)
   rw[S5,S3] at this
   rw[show k+1=((pre.length+1:Nat):Int)+1 by omega]
   exact this
theorem Ee {s l:af} {b:Bool} {ns:List ab} (hs:s.length≤900) (hl:l <:+ s) : ∀(ys pre:List Int),tR=pre++ys→f0 ((pre.length:Int)+1) (ba s) (bF s l) b ns=match ys.find? (tS l) with
  | some n=>bW (nC (vE n)) (ba s) (bF s (l.drop (lC n).length)) b ns
  | none=>some ((0,()),((ba s,bF s l,true,ns,()),()))
 | [],pre,h=>by
  have:pre.length=5:=by
   rw[W9] at h
   rw[←h]
   rfl
  rw[this,qy,ax (by decide)]
  rfl
 | k :: ys,pre,h=>by
  obtain⟨e1,e2,e3,e4,e5⟩:=MW h
  obtain⟨q,h1,h2⟩:=ld hl
  have hq:q.length+l.length=s.length:=by rw[h1]; simp
  rw[←e1,qy,aC e3,ve (by omega) e3]
  simp only[S1]
  rw[e4,show(1:Int)=((1:Nat):Int) from rfl,fj (by simp)]
  simp only[X5,Z7,aN,ai_]
  have ih:=Ee (b:=b) (ns:=ns) hs hl ys (pre++[k]) (aM h)
  rw[S5,S3,show((pre.length+1:Nat):Int)+1=k+1 by omega] at ih
  have hw:IntKind.i64.wrap (k+((1:Nat):Int))=k+1:=wr (by omega) (by omega)
  rw[hw,h2,wr (by omega) (by omega)]
  by_cases hm:(lC k).length≤l.length
  ·rw[aC (by omega),show(q.length:Int)+((lC k).length:Int)=((q.length+(lC k).length:Nat):Int) by omega,tO (by omega) (by omega),di]
   have e:(s.take (q.length+(lC k).length)).drop q.length=l.take (lC k).length:=by
    rw[h1,cq_,dl_]
    simp
   have e7:decide (l.take (lC k).length=lC k)=tS l k:=by
    unfold tS
    rw[Y7,T0,ay_,dy_]
    exact eq_comm
   rw[e,e7]
   cases hp:tS l k with
   | true =>
    simp only[V4,IB,S1,fd]
    congr 1
    unfold bF
    rw[bu_]
    omega
   | false =>
    simp only[S9,U6]
    rw[←h2]
    exact ih
  ·rw[ax (by omega)]
   have hp:tS l k=false:=by
    rw[ad_]
    intro hp
    exact hm (yq hp)
   rw[hp,←h2]
   exact ih
def eM (k:Int):af:=([[],[83,85,77],[77,73,78],[77,65,88],[67,79,85,78,84],[73,70],[65,78,68],[79,82],[78,79,84],[65,66,83],[76,69,78]]:List af).getD k.toNat []
abbrev kB:List Int:=[1,2,3,4,5,6,7,8,9,10]
theorem MX (k:Fin 11):V5 ([(⟨#[]⟩:S0),(⟨#[83,85,77]⟩:S0),(⟨#[77,73,78]⟩:S0),(⟨#[77,65,88]⟩:S0),(⟨#[67,79,85,78,84]⟩:S0),(⟨#[73,70]⟩:S0),(⟨#[65,78,68]⟩:S0),(⟨#[79,82]⟩:S0),(⟨#[78,79,84]⟩:S0),(⟨#[65,66,83]⟩:S0),(⟨#[76,69,78]⟩:S0)]:(List S0)) k.val (⟨#[]⟩:S0)=ba (eM (k.val:Int)):=by
 revert k
 decide +kernel
theorem GT {k:Int} (h0:0≤k) (h1:k≤10):Fg k=some ((ba (eM k),()),()):=by
 rw[Ot,jz h0 (by show k < 11; omega)]
 have h:=MX ⟨k.toNat,by omega⟩
 simp only[ak_ h0] at h
 rw[h]
theorem B6 {k:Int} (h0:0≤k) (h1:k≤10):yj k=some ((ba (eM k),()),()):=by
 rw[KO,jz h0 (by show k < 11; omega)]
 have h:=MX ⟨k.toNat,by omega⟩
 simp only[ak_ h0] at h
 rw[h]
theorem MY {pre ys:List Int} {k:Int} (h:kB=pre++k :: ys):k=(pre.length:Int)+1∧1≤k∧k≤10:=by
 have h1:kB[pre.length]? = some k:=by rw[h]; simp
 have hl:pre.length < 10:=by
  have h2:=T4 T5 h
  simp at h2
  omega
 have : ∀ i:Fin 10,kB[i.val]? = some ((i.val:Int)+1):=by decide
 rw[this ⟨pre.length,hl⟩] at h1
 have e:=(X0 h1).symm
 simp only at e
 exact⟨e,by omega,by omega⟩
theorem GU {deep:Int} {w l:af} {b:Bool} {ns:List ab} : ∀(ys pre:List Int),kB=pre++ys→c7 deep (ba w) ((pre.length:Int)+1) (ba l) b ns=match ys.find? (fun k=>decide (eM k=w)) with
  | some k=>fL k deep (ba l) b ns
  | none=>some ((-1,()),((ba l,ns,true,()),()))
 | [],pre,h=>by
  have:pre.length=10:=by
   rw[W9] at h
   rw[←h]
   rfl
  rw[this,mC,ax (by decide)]
  rfl
 | k :: ys,pre,h=>by
  obtain⟨e1,e2,e3⟩:=MY h
  rw[←e1,mC,aC e3,B6 (by omega) e3]
  simp only[S1,di,ai_,yu]
  by_cases hp:eM k=w
  ·rw[aC hp.symm]
   simp[hp]
  ·rw[ax (Ne.symm hp),wr (by omega) (by omega)]
   have:=GU (deep:=deep) (w:=w) (l:=l) (b:=b) (ns:=ns) ys (pre++[k]) (aM h)
   rw[S5,S3,show((pre.length+1:Nat):Int)+1=k+1 by omega] at this
   rw[this]
   simp[hp]
noncomputable def m8 (w s:af) (a:Int) (b:Bool) (ns:List ab):Option ((Int×Unit)×(iU×Unit)) :=
 if(bP w).2=true∧w≠[] then bW (nC (bP w).1) (ba s) a b ns
 else if(cn w).2=true then bW (2,0,(0,0,(⟨#[]⟩:S0),()),(cn w).1,((0,0,()),false,false,()),([]:(List Int)),()) (ba s) a b ns
 else some ((0,()),((ba s,a,true,ns,()),()))
theorem K9 {w s:af} {a:Int} {b:Bool} {ns:List ab} (hw:w.length≤1000):dV (ba w) 11 (ba s) a b ns=m8 w s a b ns:=by
 rw[qz,ax (by decide),wb (by omega),oF (by omega)]
 simp only[S1,fd]
 have e0:(S2 (ba w) == S2 (⟨#[]⟩:S0))=decide (w=[]):=di (b:=[])
 rw[e0]
 unfold m8
 cases (bP w).2 <;> by_cases hw0:w=[] <;> cases (cn w).2 <;> simp[hw0]
theorem GV {w s:af} {ns:List ab} (hw:w.length≤1000) (hs:s.length≤900) : ∀(ys pre:List Int) (l:af),kB=pre++ys→l <:+ s → ∃ l',(l'=l∨l'=bl l)∧dV (ba w) ((pre.length:Int)+1) (ba s) (bF s l) false ns=match ys.find? (fun k=>decide (eM k=w) && ([40]:af).isPrefixOf (bl l)) with
  | some k=>uL k (ba s) (bF s ((bl l).drop 1)) false ns
  | none=>m8 w s (bF s l') false ns
 | [],pre,l,h,hl=>by
  have:pre.length=10:=by
   rw[W9] at h
   rw[←h]
   rfl
  refine⟨l,.inl rfl,?_⟩
  rw[this]
  exact K9 hw
 | k :: ys,pre,l,h,hl=>by
  obtain⟨e1,e2,e3⟩:=MY h
  have ih:=fun l' (hl':l' <:+ s)=>GV (ns:=ns) hw hs ys (pre++[k]) l' (aM h) hl'
  rw[S5,S3,show((pre.length+1:Nat):Int)+1=k+1 by omega] at ih
  rw[←e1,qz,aC e3,GT (by omega) e3]
  simp only[S1,di,ai_,fd]
  by_cases hp:eM k=w
  ·rw[aC hp,show(⟨#[40]⟩:S0)=ba [40] from rfl,fO (by omega) (by decide) hl]
   simp only[S1,W0,W6,hp,Y2]
   cases hq:([40]:af).isPrefixOf (bl l) with
   | true=>exact⟨l,.inl rfl,rfl⟩
   | false =>
    simp only[S9,U6]
    rw[wr (by omega) (by omega)]
    obtain⟨l',h1,h2⟩:=ih (bl l) (ae (av l) hl)
    rw[cW] at h1 h2
    refine⟨l',.inr (by simpa using h1),?_⟩
    rw[h2,hq]
  ·rw[ax hp,wr (by omega) (by omega)]
   obtain⟨l',h1,h2⟩:=ih l hl
   refine⟨l',h1,?_⟩
   rw[h2]
   simp[hp]
theorem jB (p:UInt8→Bool) (l:af):(l.takeWhile p).length≤l.length:=(List.takeWhile_prefix p).length_le
abbrev nP (p:b9):ab:=(2,0,(0,0,(⟨#[]⟩:S0),()),p,((0,0,()),false,false,()),([]:(List Int)),())
abbrev nA (p q:b9):ab:=(3,0,(0,0,(⟨#[]⟩:S0),()),p,q,([]:(List Int)),())
noncomputable def fP (deep:Int) (w r:af) (b:Bool) (ns:List ab):Option ((Int×Unit)×(mR×Unit)) :=
 if(bP w).2=true∧((bP w).1.1=1∨(bP w).1.1=3) then bN (bP w).1 (ba r) b ns
 else if(cn w).2=true then aX (nP (cn w).1) (ba r) b ns
 else match kB.find? (fun k=>decide (eM k=w)) with
  | some k=>fL k deep (ba r) b ns
  | none=>some ((-1,()),((ba r,ns,true,()),()))
theorem gp {F:Option ((Int×Unit)×(mR×Unit))}:(F.bind fun z3=>(some ((z3.1.1,()),(z3.2.1,()))))=F:=yu
theorem MZ {deep:Int} {w l:af} {b:Bool} {ns:List ab}:c7 deep (ba w) 1 (ba l) b ns=match kB.find? (fun k=>decide (eM k=w)) with
  | some k=>fL k deep (ba l) b ns
  | none=>some ((-1,()),((ba l,ns,true,()),())):=GU kB [] rfl
theorem RP {deep:Int} {l:af} {b:Bool} {ns:List ab} (hl:l.length≤900):cR deep 6 (ba l) b ns=fP deep ((bl l).takeWhile bg) ((bl l).dropWhile bg) b ns:=by
 have h1:=aG (av l)
 have h2:((bl l).takeWhile bg).length≤(bl l).length:=jB bg (bl l)
 rw[od,ax (by decide),vj (by omega)]
 simp only[S1]
 rw[oG (by omega),kQ (by omega)]
 simp only[S1,gp,MZ]
 unfold fP
 cases (bP ((bl l).takeWhile bg)).2 with
 | false=>simp
 | true =>
  by_cases k1:(bP ((bl l).takeWhile bg)).1.1=1
  ·simp[k1]
  ·by_cases k3:(bP ((bl l).takeWhile bg)).1.1=3
   ·simp[k3]
   ·simp[k1,k3]
theorem GW {deep:Int} {l:af} {b:Bool} {ns:List ab} (hl:l.length≤900):md deep (ba l) b ns =
  if(bl l).head? = some 34 then gN (ba (bl l)) b ns
  else if(bl l).head? = some 35 then cR deep 1 (ba (bl l)) b ns
  else if(bl l).head? = some 40 then((bD 1 (IntKind.i64.wrap (deep+1)) (ba ((bl l).drop 1)) b ns).bind fun z6=>(if z6.2.1.2.2.1=true then(some ((z6.1.1,()),((z6.2.1.1,z6.2.1.2.1,true,()),()))) else((bC (⟨#[41]⟩:S0) z6.2.1.1 z6.2.1.2.2.1 z6.2.1.2.1).bind fun z7=>(some ((z6.1.1,()),((z7.2.1.1,z7.2.1.2.1,(!z7.1.1),()),()))))))
  else fP deep ((bl l).takeWhile bg) ((bl l).dropWhile bg) b ns:=by
 have h1:=aG (av l)
 have h2:((bl l).takeWhile bg).length≤(bl l).length:=jB bg (bl l)
 rw[BD,mt]
 simp only[S1]
 rw[show(⟨#[34]⟩:S0)=ba [34] from rfl,oh _ _ (by omega),show(⟨#[35]⟩:S0)=ba [35] from rfl,oh _ _ (by omega),show(⟨#[40]⟩:S0)=ba [40] from rfl,dl (by omega)]
 simp only[S1,gp,Aa,cW,kA (c:=40) (.inr (.inl rfl)),T0,S3]
 by_cases c1:(bl l).head? = some 34
 ·rw[S6 c1,S6 c1]
 ·rw[S4 c1,S4 c1]
  by_cases c2:(bl l).head? = some 35
  ·rw[S6 c2,S6 c2]
  ·rw[S4 c2,S4 c2]
   by_cases c3:(bl l).head? = some 40
   ·rw[S6 c3,S6 c3,S6 c3]
   ·rw[S4 c3,S4 c3,S4 c3,vj (by omega),cW]
    simp only[S1]
    rw[oG (by omega),kQ (by omega)]
    simp only[S1,gp,MZ]
    unfold fP
    cases (bP ((bl l).takeWhile bg)).2 with
    | false=>simp
    | true =>
     by_cases k1:(bP ((bl l).takeWhile bg)).1.1=1
     ·simp[k1]
     ·by_cases k3:(bP ((bl l).takeWhile bg)).1.1=3
      ·simp[k3]
      ·simp[k1,k3]
def Ef (m:af):Bool:=(cn (m.takeWhile bg)).2 && decide ((bl (m.dropWhile bg)).head? = some 58)
def ia (m:af):af:=bl ((bl (m.dropWhile bg)).drop 1)
theorem GX {l:af} {b:Bool} {ns:List ab} (hl:l.length≤900):ip (ba l) b ns =
  if Ef (bl l)=true then some ((nA (cn ((bl l).takeWhile bg)).1 (cn ((ia (bl l)).takeWhile bg)).1,true,()),((ba ((ia (bl l)).dropWhile bg),ns,(b || !(cn ((ia (bl l)).takeWhile bg)).2),()),()))
  else some (((0,0,(0,0,(⟨#[]⟩:S0),()),((0,0,()),false,false,()),((0,0,()),false,false,()),([]:(List Int)),()),false,()),((ba l,ns,b,()),())):=by
 have h1:=aG (av l)
 have h2:((bl l).takeWhile bg).length≤(bl l).length:=jB bg (bl l)
 have h3:=D7 bg (bl l)
 have h4:=aG (av ((bl l).dropWhile bg))
 have h5:((bl ((bl l).dropWhile bg)).drop 1).length≤(bl ((bl l).dropWhile bg)).length:=aG (ep 1 _)
 have h6:=aG (av ((bl ((bl l).dropWhile bg)).drop 1))
 have h7:((ia (bl l)).takeWhile bg).length≤(ia (bl l)).length:=jB bg _
 have h8:(ia (bl l)).length≤((bl ((bl l).dropWhile bg)).drop 1).length:=h6
 rw[wm,vj (by omega)]
 simp only[S1]
 rw[kQ (by omega)]
 simp only[S1]
 unfold Ef
 cases hp:(cn ((bl l).takeWhile bg)).2 with
 | false=>simp
 | true =>
  simp only[V4,W6]
  rw[show(⟨#[58]⟩:S0)=ba [58] from rfl,dl (by omega)]
  simp only[S1,kA (c:=58) (.inr (.inr (.inr (.inr rfl)))),S3]
  by_cases hc:(bl ((bl l).dropWhile bg)).head? = some 58
  ·simp only[hc,Y2,V6,S9,U6,V4]
   rw[vj (by omega)]
   simp only[S1]
   rw[show bl ((bl ((bl l).dropWhile bg)).drop 1)=ia (bl l) from rfl,kQ (by omega)]
   simp only[S1]
   cases b <;> simp
  ·simp only[hc,Z0,W0,V4,S9,U6]
abbrev RI:=Option ((Int×Unit)×(mR×Unit))
def rK (x:ab):Bool:=decide (x.2.2.1.2.2.1.size≤100000) && decide (x.2.2.2.2.2.1.length≤100000)
def sm (ns:List ab):Bool:=ns.all rK
def fe (l:af) (b:Bool) (ns:List ab) (F:RI):Prop :=
 ∃(i:Int) (l':af) (b':Bool) (ns':List ab),F=some ((i,()),((ba l',ns',b',()),()))∧l' <:+ l∧(b=true→b'=true)∧ns <+: ns'∧ns'.length≤60∧(sm ns=true→sm ns'=true)
theorem fe.mono {l l0:af} {b b0:Bool} {ns ns0:List ab} {F:RI} (h:fe l b ns F) (h1:l <:+ l0) (h2:b0=true→b=true) (h3:ns0 <+: ns) (h4:sm ns0=true→sm ns=true:=by exact id):fe l0 b0 ns0 F:=by
 obtain⟨i,l',b',ns',e,k1,k2,k3,k4,k5⟩:=h
 exact⟨i,l',b',ns',e,ae k1 h1,fun h=>k2 (h2 h),List.IsPrefix.trans h3 k3,k4,fun h=>k5 (h4 h)⟩
theorem lf (l:af):l <:+ l:=List.suffix_refl l
theorem dM {x:ab} {l:af} {b:Bool} {ns:List ab} (hn:ns.length≤60) (hx:rK x=true:=by rfl):fe l b ns (aX x (ba l) b ns):=by
 obtain⟨i,h,_⟩:=yt (x:=x) (l:=l) (b:=b) hn
 refine⟨i,l,_,_,h,lf l,(fun hb=>by rw[hb]; rfl),?_,?_,?_⟩
 ·split
  ·exact⟨[x],rfl⟩
  ·exact ac_ _
 ·split
  ·rename_i h
   rw[S5,S3]
   omega
  ·exact hn
 ·intro hs
  split
  ·unfold sm at hs ⊢
   rw[bi_,hs]
   simp[hx]
  ·exact hs
theorem Jl {v:aI} (h:v.2.2.1.size≤100000):rK (nC v)=true:=by
 unfold rK
 rw[U2 h]
 rfl
theorem B7 {op:Int} {y:List Int} (h:y.length≤100000):rK (6,op,(0,0,(⟨#[]⟩:S0),()),((0,0,()),false,false,()),((0,0,()),false,false,()),y,())=true:=by
 unfold rK
 rw[S8]
 exact⟨rfl,U2 h⟩
theorem lD {v:aI} {r:S0} {b:Bool} {ns:List ab}:bN v r b ns=aX (nC v) r b ns:=by
 rw[wk]
 exact gp
theorem tT {i:Int} {l:af} {b:Bool} {ns:List ab} (hn:ns.length≤60):fe l b ns (some ((i,()),((ba l,ns,true,()),()))) :=
 ⟨i,l,true,ns,rfl,lf l,fun _=>rfl,ac_ _,hn,id⟩
theorem ib {l:af} {c:UInt8} (h:l.head? = some c) : ∃ t,l=c :: t:=by
 cases l with
 | nil=>cases h
 | cons y t =>
  simp only[ah_,U3] at h
  exact⟨t,by rw[h]⟩
theorem lg {l:af} {c:UInt8} (h:(bl l).head? = some c):((bl l).drop 1).length < l.length:=by
 have:=aG (av l)
 obtain⟨t,ht⟩:=ib h
 rw[ht] at this ⊢
 simp only[T3,X5,Z7] at this ⊢
 omega
theorem fw (l:af):(bl l).drop 1 <:+ l:=ae (ep 1 _) (av l)
theorem GY (l:af):(bl l).dropWhile bg <:+ l:=ae (dk_ _) (av l)
theorem C3 (l:af):(ia (bl l)).dropWhile bg <:+ l :=
 ae (dk_ _) (ae (av _) (ae (ep 1 _) (ae (av _) (GY l))))
section
variable {n:Nat} (HB : ∀ l:af,l.length < n → ∀(deep least:Int) (b:Bool) (ns:List ab),0≤deep→deep+(l.length:Int)≤400→ns.length≤60→fe l b ns (bD least deep (ba l) b ns))
include HB
theorem Eg : ∀(m:Nat) (l:af) (op deep:Int) (b:Bool) (kids:List Int) (ns:List ab),l.length=m→l.length < n→0≤deep→deep+1+(l.length:Int)≤400→kids.length+l.length≤10000→ns.length≤60→fe l b ns (cg op deep (ba l) b kids ns):=by
 intro m
 induction m using Nat.strongRecOn with
 | ind m ih =>
  intro l op deep b kids ns hm hln hd0 hd hk hn
  subst hm
  rw[i7]
  cases b with
  | true =>
   simp only[V6,S9,U6,gp]
   exact dM hn (B7 (by omega))
  | false =>
   have tail : ∀(l2:af) (b2:Bool) (ns2:List ab) (y:List Int),l2 <:+ l→ns <+: ns2→ns2.length≤60→y.length=kids.length+1→(sm ns=true→sm ns2=true) →
     fe l false ns ((bC (⟨#[44]⟩:S0) (ba l2) b2 ns2).bind fun z3=>(if(!z3.1.1)=true then(if z3.2.1.2.2.1=true then((aX (6,op,(0,0,(⟨#[]⟩:S0),()),((0,0,()),false,false,()),((0,0,()),false,false,()),y,()) z3.2.1.1 true z3.2.1.2.1).bind fun z4=>(some ((z4.1.1,()),(z4.2.1,())))) else((bC (⟨#[41]⟩:S0) z3.2.1.1 z3.2.1.2.2.1 z3.2.1.2.1).bind fun z5=>((aX (6,op,(0,0,(⟨#[]⟩:S0),()),((0,0,()),false,false,()),((0,0,()),false,false,()),y,()) z5.2.1.1 (!z5.1.1) z5.2.1.2.1).bind fun z6=>(some ((z6.1.1,()),(z6.2.1,())))))) else(cg op deep z3.2.1.1 z3.2.1.2.2.1 y z3.2.1.2.1))):=by
    intro l2 b2 ns2 y hs hp hn2 hy hsm
    have hl2:=aG hs
    rw[show(⟨#[44]⟩:S0)=ba [44] from rfl,dl (by omega)]
    simp only[S1,kA (c:=44) (.inr (.inr (.inr (.inl rfl)))),gp,S3]
    by_cases hc:(bl l2).head? = some 44
    ·have hlt:=lg hc
     simp only[hc,Y2,V6,S9,U6,V4]
     exact(ih _ (by omega) _ op deep b2 y ns2 rfl (by omega) hd0 (by omega) (by omega) hn2).mono (ae (fw l2) hs) (fun h=>by cases h) hp hsm
    ·simp only[hc,Z0,W0,V4,U6]
     have hbl:=aG (av l2)
     cases b2 with
     | true =>
      simp only[V4]
      exact(dM hn2 (B7 (by omega))).mono (ae (av l2) hs) (fun h=>by cases h) hp hsm
     | false =>
      simp only[S9,U6]
      rw[show(⟨#[41]⟩:S0)=ba [41] from rfl,dl (by omega)]
      simp only[S1,gp]
      refine(dM hn2 (B7 (by omega))).mono ?_ (fun h=>by cases h) hp hsm
      split
      ·exact ae (ae (ep _ _) (av _)) (ae (av l2) hs)
      ·exact ae (av _) (ae (av l2) hs)
   simp only[W0,V4]
   rw[GX (by omega)]
   by_cases ha:Ef (bl l)=true
   ·rw[S6 ha]
    simp only[S1,V4]
    obtain⟨i2,l2,b2,ns2,h2,k1,k2,k3,k4,k5⟩:=dM (x:=nA (cn ((bl l).takeWhile bg)).1 (cn ((ia (bl l)).takeWhile bg)).1) (l:=(ia (bl l)).dropWhile bg) (b:=(false || !(cn ((ia (bl l)).takeWhile bg)).2)) hn
    rw[h2]
    simp only[S1]
    rw[bA (by simp only[S3]; omega)]
    exact tail _ _ _ _ (ae k1 (C3 l)) k3 k4 (by simp) k5
   ·rw[S4 ha]
    simp only[S1,S9,U6]
    rw[wr (by omega) (by omega)]
    obtain⟨i2,l2,b2,ns2,h2,k1,k2,k3,k4,k5⟩:=HB l hln (deep+1) 1 false ns (by omega) hd hn
    rw[h2]
    simp only[S1]
    rw[bA (by simp only[S3]; omega)]
    exact tail _ _ _ _ k1 k3 k4 (by simp) k5
theorem OF {l:af} {op deep:Int} {b:Bool} {ns:List ab} (hln:l.length < n) (hd0:0≤deep) (hd:deep+1+(l.length:Int)≤400) (hn:ns.length≤60):fe l b ns (fL op deep (ba l) b ns):=by
 rw[rx]
 cases b with
 | true =>
  rw[S6 rfl,xr]
  simp only[V6,S9,U6,gp]
  exact dM hn (B7 (by simp))
 | false =>
  rw[S4 (by decide),show(⟨#[40]⟩:S0)=ba [40] from rfl,dl (by omega)]
  simp only[S1]
  have hs:(if sg (bl l)=[40] then(bl l).drop ([40]:af).length else bl l) <:+ l:=by
   split
   ·exact fw l
   ·exact av l
  have:=aG hs
  exact(Eg HB _ _ op deep _ [] ns rfl (by omega) hd0 (by omega) (by simp only[List.length_nil]; omega) hn).mono hs (fun h=>by cases h) (ac_ _)
theorem OG {deep:Int} {w r:af} {b:Bool} {ns:List ab} (hln:kB.find? (fun k=>decide (eM k=w))≠none→r.length < n∧deep+1+(r.length:Int)≤400) (hd0:0≤deep) (hn:ns.length≤60):fe r b ns (fP deep w r b ns):=by
 unfold fP
 split
 ·rename_i hc
  rw[lD]
  exact dM hn (Jl (W7 (gl (qS hc.1).1) (by decide)))
 ·split
  ·exact dM hn
  ·cases hf:kB.find? (fun k=>decide (eM k=w)) with
   | some k =>
    obtain⟨h1,h2⟩:=hln (by rw[hf]; simp)
    exact OF HB h1 hd0 h2 hn
   | none=>exact tT hn
end
theorem Jm {w:af} (h:kB.find? (fun k=>decide (eM k=w))≠none) : ∃ k,kB.find? (fun k=>decide (eM k=w))=some k∧eM k=w∧k∈kB∧w≠[]:=by
 cases hf:kB.find? (fun k=>decide (eM k=w)) with
 | none=>exact V2 hf h
 | some k =>
  have h1:=List.find?_some hf
  have h2:=List.mem_of_find?_eq_some hf
  have h3:eM k=w:=by simpa using h1
  refine⟨k,rfl,h3,h2,?_⟩
  have : ∀ k∈kB,eM k≠[]:=by decide
  rw[←h3]
  exact this k h2
theorem Jn {l:af} (h:(bl l).takeWhile bg≠[]):((bl l).dropWhile bg).length < l.length:=by
 have h1:=aG (av l)
 have h2:=T4 T5 (List.takeWhile_append_dropWhile (p:=bg) (l:=bl l))
 rw[S5] at h2
 have h3:=List.length_pos_iff.2 h
 omega
theorem La {l:af} {b:Bool} {ns:List ab} (hl:l.length≤900) (hn:ns.length≤60):fe (34 :: l) b ns (gN (ba (34 :: l)) b ns):=by
 rw[B5 hl]
 cases hq:qt l with
 | none=>exact tT hn
 | some p =>
  obtain⟨h1,h2,_⟩:=MV l p.1 p.2 hq
  show fe _ b ns (bN _ _ b ns)
  rw[lD]
  refine(dM hn (Jl ?_)).mono (ae h1 ⟨[34],rfl⟩) id (ac_ _)
  show(ba ([]++p.1)).size≤_
  rw[aN]
  simp only[List.nil_append]
  omega
theorem Eh (l:af):(bl (35 :: l)).takeWhile bg=[]∧(bl (35 :: l)).dropWhile bg=35 :: l:=by
 have h1:bl (35 :: l)=35 :: l:=Z4 (by decide)
 rw[h1]
 exact⟨ch_ (by decide),Z4 (by decide)⟩
theorem Jo {deep:Int} {l:af} {b:Bool} {ns:List ab} (hl:l.length≤800):cR deep 1 (ba (35 :: l)) b ns=match tR.find? (tS l) with
  | some n=>bN (vE n) (ba (l.drop (lC n).length)) b ns
  | none=>some ((-1,()),((ba (35 :: l),ns,true,()),())):=by
 have h:=Ed (deep:=deep) (l:=l) (b:=b) (ns:=ns) (by omega) tR [] rfl
 have h:cR deep 1 (ba (35 :: l)) b ns=_:=h
 rw[h]
 cases tR.find? (tS l) with
 | some n=>rfl
 | none =>
  simp only
  rw[RP (by rw[T3]; omega),(Eh l).1,(Eh l).2]
  have e1 : ¬((bP []).2=true∧((bP []).1.1=1∨(bP []).1.1=3)):=by decide +kernel
  have e2 : ¬(cn []).2=true:=by decide +kernel
  have e3:kB.find? (fun k=>decide (eM k=[]))=none:=by decide +kernel
  unfold fP
  rw[S4 e1,S4 e2,e3]
theorem OH {l:af} (HB : ∀ l':af,l'.length < l.length → ∀(deep least:Int) (b:Bool) (ns:List ab),0≤deep→deep+(l'.length:Int)≤400→ns.length≤60→fe l' b ns (bD least deep (ba l') b ns))
  {deep:Int} {b:Bool} {ns:List ab} (hd0:0≤deep) (hd:deep+(l.length:Int)≤400) (hn:ns.length≤60):fe l b ns (md deep (ba l) b ns):=by
 have hbl:=aG (av l)
 rw[GW (by omega)]
 by_cases c1:(bl l).head? = some 34
 ·rw[S6 c1]
  obtain⟨t,ht⟩:=ib c1
  have htl:t.length+1=(bl l).length:=by rw[ht]; simp
  rw[ht]
  exact(La (by omega) hn).mono (by rw[←ht]; exact av l) id (ac_ _)
 ·rw[S4 c1]
  by_cases c2:(bl l).head? = some 35
  ·rw[S6 c2]
   obtain⟨t,ht⟩:=ib c2
   have htl:t.length+1=(bl l).length:=by rw[ht]; simp
   have hts:t <:+ l:=ae ⟨[35],by rw[ht]; rfl⟩ (av l)
   rw[ht,Jo (by omega)]
   cases tR.find? (tS t) with
   | some n =>
    simp only
    rw[lD]
    exact(dM hn (Jl (by show eS.size≤_; decide))).mono (ae (ep _ _) hts) id (ac_ _)
   | none=>exact(tT hn).mono (by rw[←ht]; exact av l) id (ac_ _)
  ·rw[S4 c2]
   by_cases c3:(bl l).head? = some 40
   ·rw[S6 c3]
    have hlt:=lg c3
    rw[wr (by omega) (by omega)]
    obtain⟨i2,l2,b2,ns2,h2,k1,k2,k3,k4,k5⟩:=HB _ hlt (deep+1) 1 b ns (by omega) (by omega) hn
    rw[h2]
    simp only[S1]
    have hl2:=aG k1
    have hs2:l2 <:+ l:=ae k1 (fw l)
    cases b2 with
    | true =>
     simp only[V4]
     exact⟨i2,l2,true,ns2,rfl,hs2,fun _=>rfl,k3,k4,k5⟩
    | false =>
     simp only[S9,U6]
     rw[show(⟨#[41]⟩:S0)=ba [41] from rfl,dl (by omega)]
     simp only[S1]
     refine⟨i2,_,_,ns2,rfl,?_,(fun h=>by have:=k2 h; cases this),k3,k4,k5⟩
     split
     ·exact ae (ae (ep _ _) (av _)) hs2
     ·exact ae (av _) hs2
   ·rw[S4 c3]
    refine(OG HB (fun h => ?_) hd0 hn).mono (GY l) id (ac_ _)
    obtain⟨k,_,_,_,hw⟩:=Jm h
    have:=Jn hw
    omega
theorem M0 : ∀(m:Nat) (l:af),l.length=m→(∀ l':af,l'.length < l.length → ∀(deep least:Int) (b:Bool) (ns:List ab),0≤deep→deep+(l'.length:Int)≤400→ns.length≤60→fe l' b ns (bD least deep (ba l') b ns)) →
  ∀(deep:Int) (b:Bool) (ns:List ab),0≤deep→deep+(l.length:Int)≤400→ns.length≤60→fe l b ns (iE deep (ba l) b ns):=by
 intro m
 induction m using Nat.strongRecOn with
 | ind m ih =>
  intro l hm HB deep b ns hd0 hd hn
  subst hm
  rw[qv,ax (by omega)]
  cases b with
  | true =>
   simp only[V4]
   exact tT hn
  | false =>
   simp only[S9,U6,gp]
   rw[show(⟨#[45]⟩:S0)=ba [45] from rfl,dl (by omega)]
   simp only[S1,kA (c:=45) (.inl rfl),S3]
   have hbl:=aG (av l)
   by_cases hc:(bl l).head? = some 45
   ·have hlt:=lg hc
    simp only[hc,Y2,V4]
    rw[wr (by omega) (by omega)]
    obtain⟨i2,l2,b2,ns2,h2,k1,k2,k3,k4,k5⟩:=ih _ hlt _ rfl (fun l' h'=>HB l' (by omega)) (deep+1) false ns (by omega) (by omega) hn
    rw[h2]
    simp only[S1]
    exact(dM k4).mono (ae k1 (fw l)) (fun h=>by cases h) k3 k5
   ·simp only[hc,Z0,S9,U6]
    exact(OH (l:=bl l) (fun l' h'=>HB l' (by omega)) hd0 (by omega) hn).mono (av l) id (ac_ _)
theorem C4 {least deep left:Int} {op:Int} {l:af} {ns:List ab} (ho:0≤op) (ho2:op≤11) (hl:l.length≤900) (hs:op≠0→sg (bl l)=dz op):ca least deep left op 12 (ba l) false ns =
  if op=0∨cT op < least then some ((left,()),((ba l,ns,false,()),()))
  else((bD (cT op+1) deep (ba ((bl l).drop (dz op).length)) false ns).bind fun z7=>((aX (5,op,(0,0,(⟨#[]⟩:S0),()),((0,0,()),false,false,()),((0,0,()),false,false,()),([left,z7.1.1]:(List Int)),()) z7.2.1.1 z7.2.1.2.2.1 z7.2.1.2.1).bind fun z8=>(dS least deep z8.1.1 z8.2.1.1 z8.2.1.2.2.1 z8.2.1.2.1))):=by
 rw[mm,ax (by decide)]
 by_cases h0:op=0
 ·rw[S6 (by rw[h0]; rfl),S6 (.inl h0)]
 ·have h0' : ¬(op == 0)=true:=by simpa using h0
  have hlv:1≤cT op∧cT op≤4:=by
   unfold cT
   repeat' split
   all_goals omega
  rw[S4 h0',Eb (by omega) ho2]
  simp only[S1]
  by_cases h1:cT op < least
  ·rw[aC h1,S6 (.inr h1)]
  ·rw[ax h1,S4 (by omega),vi ho ho2]
   simp only[S1]
   rw[dl (by omega),hs h0]
   simp only[S1,V4]
   rw[wr (by omega) (by omega)]
theorem GZ {l:af} (h:ew (bl l)≠0):((bl l).drop (dz (ew (bl l))).length).length < l.length:=by
 have h1:=aG (av l)
 have h2:=vh h
 have h3:=yq (GK (bl l))
 have h4:1≤(dz (ew (bl l))).length:=by
  have:=oj (bl l)
  have h5 : ∀ k:Fin 12,k.val≠0→1≤(dz (k.val:Int)).length:=by decide
  have:=h5 ⟨(ew (bl l)).toNat,by omega⟩ (by simp only; omega)
  simp only[ak_ (oj (bl l)).1] at this
  exact this
 rw[h2] at h3
 rw[bu_]
 omega
theorem vm : ∀(m:Nat) (l:af),l.length=m→(∀ l':af,l'.length < l.length → ∀(deep least:Int) (b:Bool) (ns:List ab),0≤deep→deep+(l'.length:Int)≤400→ns.length≤60→fe l' b ns (bD least deep (ba l') b ns)) →
  ∀(least deep left:Int) (b:Bool) (ns:List ab),0≤deep→deep+(l.length:Int)≤400→ns.length≤60→fe l b ns (dS least deep left (ba l) b ns):=by
 intro m
 induction m using Nat.strongRecOn with
 | ind m ih =>
  intro l hm HB least deep left b ns hd0 hd hn
  subst hm
  rw[iv]
  cases b with
  | true=>exact tT hn
  | false =>
   simp only[W0,V4]
   have hbl:=aG (av l)
   obtain⟨o1,o2⟩:=oj (bl l)
   rw[Ag (by omega),C4 o1 o2 (by omega) (fun h=>by rw[cW]; exact vh h),cW]
   split
   ·exact⟨left,bl l,false,ns,rfl,av l,fun h=>h,ac_ _,hn,id⟩
   ·rename_i hop
    have hop':ew (bl l)≠0:=fun e=>hop (.inl e)
    have hlt:=GZ hop'
    obtain⟨i2,l2,b2,ns2,h2,k1,k2,k3,k4,k5⟩:=HB _ hlt deep (cT (ew (bl l))+1) false ns hd0 (by omega) hn
    rw[h2]
    simp only[S1]
    obtain⟨i3,l3,b3,ns3,h3,j1,j2,j3,j4,j5⟩:=dM (x:=(5,ew (bl l),(0,0,(⟨#[]⟩:S0),()),((0,0,()),false,false,()),((0,0,()),false,false,()),([left,i2]:(List Int)),())) (l:=l2) (b:=b2) k4
    rw[h3]
    simp only[S1]
    have hs2:=aG k1
    have hs3:=aG j1
    exact(ih _ (by omega) l3 rfl (fun l' h'=>HB l' (by omega)) least deep i3 b3 ns3 hd0 (by omega) j4).mono (ae j1 (ae k1 (ae (ep _ _) (av l)))) (fun h=>by cases h) (List.IsPrefix.trans k3 j3) (fun h=>j5 (k5 h))
theorem Lb : ∀(m:Nat) (l:af),l.length=m → ∀(deep least:Int) (b:Bool) (ns:List ab),0≤deep→deep+(l.length:Int)≤400→ns.length≤60→fe l b ns (bD least deep (ba l) b ns):=by
 intro m
 induction m using Nat.strongRecOn with
 | ind m ih =>
  intro l hm deep least b ns hd0 hd hn
  subst hm
  have HB : ∀ l':af,l'.length < l.length → ∀(deep least:Int) (b:Bool) (ns:List ab),0≤deep→deep+(l'.length:Int)≤400→ns.length≤60→fe l' b ns (bD least deep (ba l') b ns) :=
   fun l' h' deep least b ns d0 d1 hn=>ih _ h' l' rfl deep least b ns d0 d1 hn
  rw[oM]
  obtain⟨i2,l2,b2,ns2,h2,k1,k2,k3,k4,k5⟩:=M0 _ l rfl HB deep b ns hd0 hd hn
  rw[h2]
  simp only[S1]
  have hs2:=aG k1
  exact(vm _ l2 rfl (fun l' h'=>HB l' (by omega)) least deep i2 b2 ns2 hd0 (by omega) k4).mono k1 k2 k3 k5
abbrev RS:=Option ((Int×Unit)×(iU×Unit))
def cX (ns:List ab):Bool:=ns.all ed
theorem M1 {ns ns':List ab} (h:ns <+: ns') (k:cX ns=false):cX ns'=false:=by
 obtain⟨r,rfl⟩:=h
 unfold cX at k ⊢
 rw[bi_,k]
 rfl
def Dm (b:Bool) (ns:List ab):Prop:=(b=true∨cX ns=false)∧sm ns=true
theorem M2 {x:ab} (h:ed x=true):rK x=true:=by
 have:x.2.2.1.2.2.1.size≤100000∧x.2.2.2.2.2.1.length≤100000:=by
  unfold ed kl at h
  split at h
  ·simp only[S8,T0] at h
   have:=gl h.1.1.2
   omega
  ·split at h
   ·simp only[S8,T0] at h
    rw[h.1.1.1.2]
    exact⟨by decide,by omega⟩
   ·split at h
    ·simp only[S8,T0] at h
     rw[h.1.1.2]
     exact⟨by decide,by omega⟩
    ·split at h
     ·simp only[S8,T0] at h
      rw[h.1.1.1.2]
      exact⟨by decide,by omega⟩
     ·split at h
      ·simp only[S8,T0] at h
       rw[h.1.1.1.2]
       exact⟨by decide,by omega⟩
      ·split at h
       ·simp only[S8,T0] at h
        rw[h.1.1.2]
        refine⟨by decide,?_⟩
        have h2:=h.1.1.1
        unfold qM at h2
        split at h2
        ·simp only[bd_,T0] at h2
         omega
        ·split at h2
         ·have:=bU.1 h2
          omega
         ·split at h2
          ·simp only[T0] at h2
           omega
          ·cases h2
       ·cases h
 unfold rK
 rw[U2 this.1,U2 this.2]
 rfl
theorem vn {ns:List ab} (h:cX ns=true):sm ns=true:=by
 unfold cX at h
 unfold sm
 rw[List.all_eq_true] at h ⊢
 exact fun x hx=>M2 (h x hx)
theorem B8 {ns:List ab} (h:cX ns=true):Dm true ns:=⟨.inl rfl,vn h⟩
theorem fe.dm {l:af} {b:Bool} {ns:List ab} {F:RI} (h:fe l b ns F) (hd:Dm b ns) : ∃(i:Int) (l':af) (b':Bool) (ns':List ab),F=some ((i,()),((ba l',ns',b',()),()))∧l' <:+ l∧Dm b' ns'∧ns'.length≤60:=by
 obtain⟨i,l',b',ns',e,k1,k2,k3,k4,k5⟩:=h
 exact⟨i,l',b',ns',e,k1,⟨hd.1.elim (fun h => .inl (k2 h)) (fun h => .inr (M1 k3 h)),k5 hd.2⟩,k4⟩
def kC (s m:af) (L:Int) (F:RI) (G:RS):Prop :=
 (∃(i:Int) (l1 l2:af) (ns:List ab),F=some ((i,()),((ba l1,ns,false,()),()))∧G=some ((i,()),((ba s,bF s l2,false,ns,()),()))∧bl l1=bl l2∧l1 <:+ m∧l2 <:+ m∧cX ns=true∧ns.length≤60∧(ew (bl l1)=0∨cT (ew (bl l1)) < L))
 ∨ (∃(i:Int) (l1:af) (b1:Bool) (ns1:List ab) (j:Int) (l2:af) (ns2:List ab),F=some ((i,()),((ba l1,ns1,b1,()),()))∧Dm b1 ns1∧l1 <:+ m∧ns1.length≤60∧G=some ((j,()),((ba s,bF s l2,true,ns2,()),()))∧l2 <:+ s∧ns2.length≤61+m.length)
theorem Lc (k:Int):cT k < 5:=by
 unfold cT
 repeat' split
 all_goals omega
theorem kC.mono {s m m':af} {L:Int} {F:RI} {G:RS} (h:kC s m L F G) (hm:m <:+ m'):kC s m' L F G:=by
 have:=aG hm
 rcases h with⟨i,l1,l2,ns,e1,e2,h1,h2,h3,h4,h5,h6⟩ | ⟨i,l1,b1,ns1,j,l2,ns2,e1,h1,h2,h3,e2,h4,h5⟩
 ·exact .inl ⟨i,l1,l2,ns,e1,e2,h1,ae h2 hm,ae h3 hm,h4,h5,h6⟩
 ·exact .inr ⟨i,l1,b1,ns1,j,l2,ns2,e1,h1,ae h2 hm,h3,e2,h4,by omega⟩
theorem Jp {ns:List ab} {x:ab} (h:sm ns=true) (hx:rK x=true):sm (ns++[x])=true:=by
 unfold sm at h ⊢
 rw[bi_,h]
 simp[hx]
theorem G0 {x:ab} (h:rK x=true):x.2.2.1.2.2.1.size≤9223372036854775807:=by
 unfold rK at h
 rw[S8,T0] at h
 exact W7 h.1 (by decide)
theorem m9 {s m l1 l2:af} {x:ab} {ns:List ab} (hsx:rK x=true) (h1:bl l1=bl l2) (k1:l1 <:+ m) (k2:l2 <:+ m) (hms:m <:+ s) (ho:cX ns=true) (hn:ns.length≤60) :
  kC s m 5 (aX x (ba l1) false ns) (bW x (ba s) (bF s l2) false ns):=by
 have hx:=G0 hsx
 obtain⟨i,e,hi⟩:=yt (x:=x) (l:=l1) (b:=false) hn
 rw[e,C0 (by omega) hx]
 by_cases hlt:ns.length < 60
 ·have hi:=hi rfl hlt
  subst hi
  have d60:decide (60≤ns.length)=false:=U9 (by omega)
  rw[d60,S6 ⟨rfl,hlt⟩]
  simp only[cf_]
  cases hk:ed x with
  | true =>
   refine .inl ⟨_,l1,l2,ns++[x],rfl,rfl,h1,k1,k2,?_,?_,.inr (Lc _)⟩
   ·unfold cX at ho ⊢
    rw[bi_,ho]
    simp[hk]
   ·rw[S5,S3]; omega
  | false =>
   refine .inr ⟨_,l1,false,ns++[x],(ns.length:Int),l2,ns++[x],rfl,⟨.inr ?_,Jp (vn ho) hsx⟩,k1,?_,rfl,ae k2 hms,?_⟩
   ·unfold cX
    rw[bi_]
    simp[hk]
   ·rw[S5,S3]; omega
   ·rw[S5,S3]; omega
 ·have d60:decide (60≤ns.length)=true:=U2 (by omega)
  rw[d60,S4 (by omega)]
  refine .inr ⟨i,l1,true,ns,(ns.length:Int),l2,ns++[x],rfl,B8 ho,k1,hn,?_,ae k2 hms,?_⟩
  ·simp
  ·rw[S5,S3]; omega
theorem G1 {s:af} {a:Int} {x:ab} {ns:List ab} (hn:ns.length≤1000) (hx:x.2.2.1.2.2.1.size≤9223372036854775807):bW x (ba s) a true ns=some (((ns.length:Int),()),((ba s,a,true,ns++[x],()),())):=by
 rw[C0 hn hx]
 rfl
theorem Ld {op:Int} {s:S0} {a:Int} {b:Bool} {ns:List ab} {kids:List Int}:ox op s a b ns kids=cA op s a b kids ns:=by
 rw[zW,ke]
theorem Ei {op:Int} {s:S0} {a:Int} {ns:List ab} {kids:List Int}:cA op s a true kids ns=some ((0,()),((s,a,true,ns,()),())):=by
 rw[ke]
 rfl
abbrev nF (op:Int) (kids:List Int):ab:=(6,op,(0,0,(⟨#[]⟩:S0),()),((0,0,()),false,false,()),((0,0,()),false,false,()),kids,())
noncomputable def vo (op deep:Int) (y:List Int) (r:S0) (b:Bool) (ns:List ab):RI :=
 (bC (⟨#[44]⟩:S0) r b ns).bind fun z3=>(if(!z3.1.1)=true then(if z3.2.1.2.2.1=true then((aX (nF op y) z3.2.1.1 true z3.2.1.2.1).bind fun z4=>(some ((z4.1.1,()),(z4.2.1,())))) else((bC (⟨#[41]⟩:S0) z3.2.1.1 z3.2.1.2.2.1 z3.2.1.2.1).bind fun z5=>((aX (nF op y) z5.2.1.1 (!z5.1.1) z5.2.1.2.1).bind fun z6=>(some ((z6.1.1,()),(z6.2.1,())))))) else(cg op deep z3.2.1.1 z3.2.1.2.2.1 y z3.2.1.2.1))
theorem IG {op deep:Int} {l:af} {kids:List Int} {ns:List ab} (hl:l.length≤900):cg op deep (ba l) false kids ns =
  if Ef (bl l)=true then(aX (nA (cn ((bl l).takeWhile bg)).1 (cn ((ia (bl l)).takeWhile bg)).1) (ba ((ia (bl l)).dropWhile bg)) (!(cn ((ia (bl l)).takeWhile bg)).2) ns).bind fun z2=>(app kids ([z2.1.1]:(List Int)) 8 fun y1=>vo op deep y1 z2.2.1.1 z2.2.1.2.2.1 z2.2.1.2.1)
  else(bD 1 (IntKind.i64.wrap (deep+1)) (ba l) false ns).bind fun z7=>(app kids ([z7.1.1]:(List Int)) 8 fun y2=>vo op deep y2 z7.2.1.1 z7.2.1.2.2.1 z7.2.1.2.1):=by
 rw[i7]
 simp only[W0,V4]
 rw[GX hl]
 by_cases ha:Ef (bl l)=true
 ·rw[S6 ha,S6 ha]
  simp only[S1,V4,cf_]
  rfl
 ·rw[S4 ha,S4 ha]
  simp only[S1,S9,U6]
  rfl
theorem yv : ∀(l:af),∀(deep least:Int) (b:Bool) (ns:List ab),0≤deep→deep+(l.length:Int)≤400→ns.length≤60→fe l b ns (bD least deep (ba l) b ns):=fun l=>Lb _ l rfl
theorem vp {op deep:Int} {y:List Int} {l:af} {b:Bool} {ns:List ab} (hd0:0≤deep) (hd:deep+1+(l.length:Int)≤400) (hy:y.length+l.length≤9000) (hn:ns.length≤60):fe l b ns (vo op deep y (ba l) b ns):=by
 have hbl:=aG (av l)
 unfold vo
 rw[show(⟨#[44]⟩:S0)=ba [44] from rfl,dl (by omega)]
 simp only[S1,gp]
 by_cases hc:sg (bl l)=[44]
 ·have hc':(bl l).head? = some 44:=by rw[←kA (c:=44) (.inr (.inr (.inr (.inl rfl))))]; exact hc
  have hlt:=lg hc'
  simp only[hc,Y2,V6,S9,U6,V4,S3]
  exact(Eg (n:=l.length+1) (fun l' _ deep least b ns d0 d1 hn=>yv l' deep least b ns d0 d1 hn) _ _ op deep b y ns rfl (by omega) hd0 (by omega) (by omega) hn).mono (fw l) id (ac_ _)
 ·simp only[hc,Z0,W0,V4,U6]
  cases b with
  | true =>
   simp only[V4]
   exact(dM hn (B7 (by omega))).mono (av l) (fun _=>rfl) (ac_ _)
  | false =>
   simp only[S9,U6]
   rw[show(⟨#[41]⟩:S0)=ba [41] from rfl,dl (by omega)]
   simp only[S1,gp]
   refine(dM hn (B7 (by omega))).mono ?_ (fun h=>by cases h) (ac_ _)
   split
   ·exact ae (ae (ep _ _) (av _)) (av l)
   ·exact ae (av _) (av l)
noncomputable def yw (op:Int) (y:List Int) (s:S0) (a:Int) (b:Bool) (ns:List ab):RS :=
 (cY (⟨#[41]⟩:S0) s a b ns).bind fun z2=>(if z2.1.1=true then((bW (nF op y) z2.2.1.1 z2.2.1.2.1 z2.2.1.2.2.1 z2.2.1.2.2.2.1).bind fun z3=>(some ((z3.1.1,()),(z3.2.1,())))) else((cY (⟨#[44]⟩:S0) z2.2.1.1 z2.2.1.2.1 z2.2.1.2.2.1 z2.2.1.2.2.2.1).bind fun z4=>(if(!z4.1.1)=true then(cA op z4.2.1.1 z4.2.1.2.1 true y z4.2.1.2.2.2.1) else(cA op z4.2.1.1 z4.2.1.2.1 z4.2.1.2.2.1 y z4.2.1.2.2.2.1))))
theorem rL {op:Int} {y:List Int} {s l:af} {ns:List ab} (hs:s.length≤900) (h:l <:+ s) : ∃ l',l' <:+ s∧yw op y (ba s) (bF s l) true ns=some ((0,()),((ba s,bF s l',true,ns,()),())):=by
 unfold yw
 rw[show(⟨#[41]⟩:S0)=ba [41] from rfl,fO (by omega) (by decide) h]
 simp only[S1,V6,Bool.false_and,S9,U6]
 rw[show(⟨#[44]⟩:S0)=ba [44] from rfl,fO (by omega) (by decide) (ae (av l) h)]
 simp only[S1,V6,Bool.false_and,S9,U6,W0,V4]
 exact⟨bl (bl l),ae (av _) (ae (av l) h),Ei⟩
theorem II {op:Int} {s l:af} {kids:List Int} {ns:List ab}:cA op (ba s) (bF s l) false kids ns=(nZ (ba s) (bF s l) false ns).bind fun z1=>(app kids ([z1.1.1]:(List Int)) 8 fun y1=>yw op y1 z1.2.1.1 z1.2.1.2.1 z1.2.1.2.2.1 z1.2.1.2.2.2.1):=by
 rw[ke]
 rfl
theorem PX {s l:af} {ns:List ab} (hs:s.length≤900) (h:l <:+ s):nZ (ba s) (bF s l) false ns =
  if Ef (bl l)=true then(if(cn ((ia (bl l)).takeWhile bg)).2=true then bW (nA (cn ((bl l).takeWhile bg)).1 (cn ((ia (bl l)).takeWhile bg)).1) (ba s) (bF s ((ia (bl l)).dropWhile bg)) false ns
   else some ((0,()),((ba s,bF s ((ia (bl l)).dropWhile bg),true,ns,()),())))
  else dI 1 (ba s) (bF s (bl l)) false ns:=by
 have hm:=ae (av l) h
 have hr:=ae (GY l) h
 have hsl:=aG h
 have h1:=aG (av l)
 have h2:=jB bg (bl l)
 have h3:=aG (C3 l)
 rw[Gj,GM (by omega) h]
 simp only[S1]
 rw[Ah (by omega) hm]
 simp only[S1]
 rw[oF (by omega)]
 simp only[S1]
 unfold Ef
 cases hp:(cn ((bl l).takeWhile bg)).2 with
 | false=>simp only[Bool.false_and,S9,U6,fd]
 | true =>
  simp only[V4,W6]
  rw[show(⟨#[58]⟩:S0)=ba [58] from rfl,fO (by omega) (by decide) hr]
  simp only[S1,W0,W6,Aa]
  by_cases hc:(bl ((bl l).dropWhile bg)).head? = some 58
  ·simp only[hc,Y2,V4,S3]
   have hq:(bl ((bl l).dropWhile bg)).drop 1 <:+ s:=ae (fw _) hr
   rw[GM (by omega) hq]
   simp only[S1]
   have hq2:ia (bl l) <:+ s:=ae (av _) hq
   rw[show bl ((bl ((bl l).dropWhile bg)).drop 1)=ia (bl l) from rfl,Ah (by omega) hq2]
   simp only[S1]
   have h4:=jB bg (ia (bl l))
   have h5:=aG hq2
   rw[oF (by omega)]
   simp only[S1,fd]
   cases (cn ((ia (bl l)).takeWhile bg)).2 <;> simp
  ·simp only[hc,Z0,S9,U6,fd]
end Go.Proofs.YtfffplonjaigkaaGreatDoor.Abs
