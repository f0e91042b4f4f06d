/- Plain laws: wraps, places of rows and texts, sizes. -/
import Derived.Test.YtddiiceaindlhaaGreatDoorZA3
import Derived.Test.YtddiiceaindlhaaGreatDoorZQ1
set_option linter.unusedVariables false
set_option linter.unusedSimpArgs false
set_option linter.unusedSectionVars false
namespace Go.Proofs.YtddiiceaindlhaaGreatDoor.Abs
open Go
section
variable {α β:Type}
theorem bv {xs pre ys:List α} {y d:α} {f:α→Option β} (h:xs=pre++y :: ys):ix xs (pre.length:Int) d f=f y:=by
 subst h
 have h1:((pre.length:Nat):Int) < ((pre++y :: ys).length:Int):=sU
 unfold ix
 rw[if_pos (nn _),if_pos h1,fU]
theorem dY {xs:List α} {i:Int} {y d:α} {f:α→Option β} (h0:0≤i) (h:xs[i.toNat]? = some y):ix xs i d f=f y:=by
 have h2:=(List.getElem?_eq_some_iff.1 h)
 obtain⟨h3,h4⟩:=h2
 have h1:i < (xs.length:Int):=by omega
 unfold ix
 rw[if_pos h0,if_pos h1]
 congr 1
 simp[List.getD_eq_getElem?_getD,h]
theorem iZ {xs:List α} {i:Int} {k:Option β} (h0:0≤i) (h1:i < (xs.length:Int)):inb xs i k=k:=by
 unfold inb
 rw[if_pos h0,if_pos h1]
theorem fJ {xs pre ys:List α} {y:α} {k:Option β} (h:xs=pre++y :: ys):inb xs (pre.length:Int) k=k:=by
 subst h
 exact iZ (nn _) sU
theorem Ta {s:ByteArray} {i:Int} {f:Int→Option β} (h0:0≤i) (h1:i < (s.size:Int)):d9 s i f=f (bt s i):=by
 unfold d9
 rw[if_pos h0,if_pos h1]
theorem Ph {n b:Nat} {d:α} {f:List α→Option β} (h:n*b≤140737488355328):RM (n:Int) b d f=f (List.replicate n d):=by
 unfold RM
 rw[if_pos (nn _)]
 simp only[Int.toNat_natCast]
 rw[if_pos h]
theorem j0 {a b:ByteArray} {f:ByteArray→Option β} (h:a.size+b.size≤9223372036854775807):cats a b f=f (a++b):=if_pos h
theorem bo {a b:List α} {n:Nat} {f:List α→Option β} (h:(a.length+b.length)*n≤140737488355328):app a b n f=f (a++b):=if_pos h
theorem Tb {s:ByteArray} {h:Int} {f:ByteArray→Option β} (h0:0≤h) (h1:h≤(s.size:Int)):BU s h f=f (s.extract 0 h.toNat):=by
 unfold BU
 rw[if_pos h0,if_pos h1]
theorem Tc {s:ByteArray} {l:Int} {f:ByteArray→Option β} (h0:0≤l) (h1:l≤(s.size:Int)):ii s l f=f (s.extract l.toNat s.size):=by
 unfold ii
 rw[if_pos h0,if_pos h1]
theorem Td {s:ByteArray} {l h:Int} {f:ByteArray→Option β} (h0:0≤l) (h1:l≤h) (h2:h≤(s.size:Int)):ui s l h f=f (s.extract l.toNat h.toNat):=by
 unfold ui
 rw[if_pos (by omega),if_pos h2,if_pos h0,if_pos h1]
theorem Pi {xs:List α} {h:Int} {f:List α→Option β} (h0:0≤h) (h1:h≤(xs.length:Int)):Je xs h f=f (xs.take h.toNat):=by
 unfold Je
 rw[if_pos h0,if_pos h1]
theorem TX {b:Int} {k:Option β} (h:b≠0):nz b k=k:=if_neg h
theorem bP {xs pre ys:List α} {y:α} (h:xs=pre++y :: ys):((pre.length:Nat):Int) < (xs.length:Int):=by rw[h]; exact sU
theorem bO {xs pre:List α} (h:xs=pre++[]) : ¬((pre.length:Nat):Int) < (xs.length:Int):=by rw[h,List.append_nil]; exact Int.lt_irrefl _
theorem aX {xs pre ys:List α} {y:α} (h:xs=pre++y :: ys) (hl:xs.length≤9223372036854775807):IntKind.i64.wrap ((pre.length:Int)+1)=((pre++[y]).length:Int):=by
 have:=bP h
 rw[wr (by omega) (by omega),QO]
theorem aK {xs pre ys:List α} {y:α} (h:xs=pre++y :: ys):xs=(pre++[y])++ys:=by rw[h]; simp
end
def nD (s:ByteArray):List Int:=s.data.toList.map fun b=>(b.toNat:Int)
theorem wS (s:ByteArray):(nD s).length=s.size:=by
 unfold nD
 rw[List.length_map,Array.length_toList]
 rfl
theorem Te {s:ByteArray} {pre ys:List Int} {y:Int} (h:nD s=pre++y :: ys):bt s (pre.length:Int)=y:=by
 have hl:pre.length < s.size:=by rw[←wS,h]; simp
 unfold bt
 simp only[Int.toNat_natCast,hl,dite_true]
 have h1:(nD s)[pre.length]? = some y:=by rw[h]; simp
 unfold nD at h1
 rw[List.getElem?_map,Option.map_eq_some_iff] at h1
 obtain⟨b,hb,rfl⟩:=h1
 rw[List.getElem?_eq_some_iff] at hb
 obtain⟨_,hb⟩:=hb
 rw[←hb]
 simp[ByteArray.getElem_eq_getElem_data]
@[simp] theorem TY (a b:ByteArray):nD (a++b)=nD a++nD b:=by simp[nD]
@[simp] theorem size_append (a b:ByteArray):(a++b).size=a.size+b.size:=ByteArray.size_append
theorem zX {β:Type} {s:ByteArray} {pre ys:List Int} {y:Int} {f:Int→Option β} (h:nD s=pre++y :: ys):d9 s (pre.length:Int) f=f y:=by
 have hl:((pre.length:Nat):Int) < (s.size:Int):=by rw[←wS]; exact bP h
 rw[Ta (nn _) hl,Te h]
theorem Pj {s:ByteArray} {pre ys:List Int} {y:Int} (h:nD s=pre++y :: ys):((pre.length:Nat):Int) < (s.size:Int):=by rw[←wS]; exact bP h
theorem L3 {s:ByteArray} {pre:List Int} (h:nD s=pre++[]) : ¬((pre.length:Nat):Int) < (s.size:Int):=by rw[←wS]; exact bO h
theorem JQ {s:ByteArray} {pre ys:List Int} {y:Int} (h:nD s=pre++y :: ys) (hl:s.size≤9223372036854775807):IntKind.i64.wrap ((pre.length:Int)+1)=((pre++[y]).length:Int):=aX h (by rw[wS]; exact hl)
@[simp] theorem Uj {x y:ByteArray}:(x == y)=true↔x=y:=by
 cases x; cases y
 constructor
 ·intro h
  congr 1
  exact eq_of_beq h
 ·intro h
  cases h
  exact beq_self_eq_true (α:=Array UInt8) _
theorem sB : ∀ {t:Ty} {x y:t.den},cJ t=true→(bB t x y=true↔x=y)
 | .int _,x,y,_=>by simp[bB]
 | .bool,x,y,_=>by simp[bB]
 | .str,x,y,_=>by
  exact Uj
 | .unit,_,_,_=>by simp[bB]
 | .pair a b,x,y,h=>by
  simp only[cJ,Bool.and_eq_true] at h
  simp only[bB,Bool.and_eq_true,sB h.1,sB h.2]
  exact⟨fun⟨h1,h2⟩=>Prod.ext h1 h2,fun h=>by rw[h]; exact⟨rfl,rfl⟩⟩
 | .agg t,x,y,h=>by
  simp only[cJ] at h
  simp only[bB,sB h]
 | .slice _ _,_,_,h=>by cases h
def cD (left:Int) (n:Nat):Int:=if(n:Int)≤left then left - n else -1
theorem wT {left:Int} {a b:Nat} (h : ¬cD left a < 0):cD (cD left a) b=cD left (a+b):=by
 unfold cD at h ⊢
 by_cases h1:(a:Int)≤left
 ·rw[if_pos h1] at h ⊢
  by_cases h2:(b:Int)≤left - a
  ·rw[if_pos h2,if_pos (by omega)]
   omega
  ·rw[if_neg h2,if_neg (by omega)]
 ·rw[if_neg h1] at h
  omega
theorem tK {left:Int} {a b:Nat} (h:cD left a < 0):cD left (a+b) = -1:=by
 unfold cD at h ⊢
 split at h
 ·omega
 ·rw[if_neg (by omega)]
theorem zY {left:Int} {n:Nat} (h:0≤left):cD left n≤left:=by
 unfold cD
 split <;> omega
theorem wU {left:Int} {n:Nat} : ¬cD left n < 0→(n:Int)≤left∧cD left n=left - n:=by
 unfold cD
 split
 ·intro _
  constructor <;> first | assumption | rfl
 ·intro h
  omega
theorem Bj {left:Int} {n:Nat} (h0:0≤left) (h1:left≤9223372036854775807) (hn:n≤9223372036854775807):(IntKind.i64.wrap (left - (n:Int)) < 0↔cD left n < 0)∧(¬cD left n < 0→IntKind.i64.wrap (left - (n:Int))=cD left n):=by
 rw[wr (by omega) (by omega)]
 unfold cD
 split <;> constructor <;> first | omega | (intro _; rfl)
theorem QY {left:Int} (h:0≤left):cD left 0=left:=by
 unfold cD
 rw[if_pos (by omega)]
 omega
def l5 {α:Type} (f:α→Nat):List α→Nat
 | []=>0
 | x :: l=>f x+l5 f l
theorem L4 {α:Type} {f:α→Nat} {l:List α} {x:α} (h:x∈l):f x≤l5 f l:=by
 induction l with
 | nil=>cases h
 | cons y l ih =>
  simp only[l5]
  rcases List.mem_cons.1 h with rfl | h
  ·omega
  ·have:=ih h
   omega
end Go.Proofs.YtddiiceaindlhaaGreatDoor.Abs
set_option linter.unusedVariables false
set_option linter.unusedSimpArgs false
set_option linter.unusedSectionVars false
namespace Go.Proofs.YtddiiceaindlhaaGreatDoor.Abs
open Go
theorem aD {α:Type} {p:Prop} [Decidable p] {a b:α} (h:p):(if decide p=true then a else b)=a:=if_pos (decide_eq_true h)
theorem av {α:Type} {p:Prop} [Decidable p] {a b:α} (h : ¬p):(if decide p=true then a else b)=b:=if_neg (by simpa using h)
theorem Si {w left:Int} {n rest:Nat} {K:Int→Option ((Int×Unit)×Unit)} (hw:cD left n=w) (h0:0≤left) (h1:left≤9223372036854775807) (hK : ∀ l,0≤l→l≤9223372036854775807→K l=some ((cD l rest,()),())) :
  (if decide (w < 0)=true then some ((-1,()),()) else K w)=some ((cD left (n+rest),()),()):=by
 subst hw
 by_cases hn:cD left n < 0
 ·rw[aD hn,tK hn]
 ·have:=zY (n:=n) h0
  rw[av hn,hK _ (by omega) (by omega),wT hn]
theorem JR (l:Int) (h0:0≤l) (h1:l≤9223372036854775807):some ((l,()),())=some ((cD l 0,()),()):=by rw[QY h0]
section
variable {α:Type}
theorem JS {f:α→Nat} {xs:List α} {P:Int→Int→Option ((Int×Unit)×Unit)} {c:α→Int→Option ((Int×Unit)×Unit)} {d:α}
  (hP : ∀ l i,P l i=if decide (i < (xs.length:Int))=true then ix xs i d fun y=>(c y l).bind fun z=>if decide (z.1.1 < 0)=true then some ((-1,()),()) else P z.1.1 (IntKind.i64.wrap (i+1)) else some ((l,()),()))
  (hc : ∀ y∈xs,∀ l,0≤l→l≤9223372036854775807→c y l=some ((cD l (f y),()),())) (hl:(xs.length:Int)≤9223372036854775807) : ∀ l,0≤l→l≤9223372036854775807→P l 0=some ((cD l (l5 f xs),()),()):=by
 have go : ∀(ys pre:List α),xs=pre++ys → ∀ l,0≤l→l≤9223372036854775807→P l (pre.length:Int)=some ((cD l (l5 f ys),()),()):=by
  intro ys
  induction ys with
  | nil =>
   intro pre he l h0 h1
   rw[hP,av (bO he)]
   exact JR l h0 h1
  | cons y ys ih =>
   intro pre he l h0 h1
   rw[hP,aD (bP he),bv he,hc y (by rw[he]; simp) l h0 h1,Option.bind_some]
   show(if decide (cD l (f y) < 0)=true then _ else P (cD l (f y)) (IntKind.i64.wrap (↑pre.length+1)))=_
   generalize hw:cD l (f y)=w
   refine Si (K:=fun w=>P w (IntKind.i64.wrap (↑pre.length+1))) hw h0 h1 fun l' h0' h1' => ?_
   show P l' (IntKind.i64.wrap (↑pre.length+1))=_
   rw[aX he (by omega)]
   exact ih _ (aK he) l' h0' h1'
 exact go xs [] rfl
theorem JT {xs:List α} {P:Int→List α→Option ((List α×Unit)×Unit)} {c:α→Option ((α×Unit)×Unit)} {d:α}
  (hP : ∀ i zs,P i zs=if decide (i < (xs.length:Int))=true then ix xs i d fun y=>(c y).bind fun z=>inb zs i (P (IntKind.i64.wrap (i+1)) (zs.set i.toNat z.1.1)) else some ((zs,()),()))
  (hc : ∀ y∈xs,c y=some ((y,()),())) (hl:(xs.length:Int)≤9223372036854775807) : ∀ zs:List α,zs.length=xs.length→P 0 zs=some ((xs,()),()):=by
 have go : ∀(ys pre zs:List α),xs=pre++ys→zs.length=ys.length→P (pre.length:Int) (pre++zs)=some ((xs,()),()):=by
  intro ys
  induction ys with
  | nil =>
   intro pre zs he hz
   rw[hP,av (bO he),List.eq_nil_of_length_eq_zero hz,he]
  | cons y ys ih =>
   intro pre zs he hz
   cases zs with
   | nil=>cases hz
   | cons z zs =>
    rw[hP,aD (bP he),bv he,hc y (by rw[he]; simp),Option.bind_some,fJ rfl,DQ,aX he (by omega),show pre++y :: zs=(pre++[y])++zs by simp]
    exact ih _ zs (aK he) (by simpa using hz)
 intro zs hz
 exact go xs [] zs rfl hz
theorem JU {xs:List α} {P:Int→Option ((Bool×Unit)×Unit)} {B:α→α→Option ((Bool×Unit)×Unit)→Option ((Bool×Unit)×Unit)} {d d':α}
  (hP : ∀ i,P i=if decide (i < (xs.length:Int))=true then ix xs i d fun y=>ix xs i d' fun y'=>B y y' (P (IntKind.i64.wrap (i+1))) else some ((true,()),()))
  (hB : ∀ y∈xs,∀ k,B y y k=k) (hl:(xs.length:Int)≤9223372036854775807):P 0=some ((true,()),()):=by
 have go : ∀(ys pre:List α),xs=pre++ys→P (pre.length:Int)=some ((true,()),()):=by
  intro ys
  induction ys with
  | nil =>
   intro pre he
   rw[hP,av (bO he)]
  | cons y ys ih =>
   intro pre he
   rw[hP,aD (bP he),bv he,bv he,hB y (by rw[he]; simp),aX he (by omega)]
   exact ih _ (aK he)
 exact go xs [] rfl
end
end Go.Proofs.YtddiiceaindlhaaGreatDoor.Abs
set_option linter.unusedVariables false
set_option linter.unusedSimpArgs false
set_option linter.unusedSectionVars false
namespace Go.Proofs.YtddiiceaindlhaaGreatDoor.Abs
open Go
abbrev eS:ByteArray:=⟨#[]⟩
theorem Nr (a b:Int):(a == b)=decide (a=b):=rfl
def bF (n lo hi:Int):Bool:=decide (lo≤n∧n≤hi)
theorem jy (n lo hi:Int):fa n lo hi=some ((bF n lo hi,()),()):=by
 rw[Nc]
 unfold bF
 by_cases h:lo≤n <;> simp[h]
theorem eA (n lo hi:Int):gt n lo hi=some ((bF n lo hi,()),()):=by
 rw[QS]
 unfold bF
 by_cases h:lo≤n <;> simp[h]
theorem bc {n lo hi:Int}:bF n lo hi=true↔lo≤n∧n≤hi:=by simp[bF]
def ar (r:ai):Bool:=bF r.1 1 52 && bF r.2.1 1 99
theorem gB (r:ai):cA r=some ((ar r,()),()):=by
 rw[O4]
 unfold ar
 simp only[eA,Option.bind_some]
 cases bF r.1 1 52 <;> simp
theorem nE (r:ai):gm r=some ((ar r,()),()):=by
 rw[O9]
 unfold ar
 simp only[jy,Option.bind_some]
 cases bF r.1 1 52 <;> simp
def cc (a:bj):Bool:=ar a.1 && ar a.2.1 && decide (a.1.1≤a.2.1.1) && decide (a.1.2.1≤a.2.1.2.1)
theorem ya (a:bj):wq a=some ((cc a,()),()):=by
 rw[MZ]
 unfold cc
 simp only[gB,Option.bind_some]
 cases ar a.1 <;> cases ar a.2.1 <;> by_cases h:a.1.1≤a.2.1.1 <;> simp[h]
theorem lU (a:bj):pO a=some ((cc a,()),()):=by
 rw[Ni]
 unfold cc
 simp only[nE,Option.bind_some]
 cases ar a.1 <;> cases ar a.2.1 <;> by_cases h:a.1.1≤a.2.1.1 <;> simp[h]
def rA (b:Int):Bool:=decide (32≤b∧b≤126)
def plain (s:ByteArray):Bool:=(nD s).all rA
theorem yQ {s:ByteArray} (hs:s.size≤9223372036854775807) : ∀(ys pre:List Int),nD s=pre++ys→qu s (pre.length:Int)=some ((ys.all rA && decide ((s.size:Int)≤200),()),())
 | [],pre,he=>by
  rw[wK,av (L3 he)]
  simp
 | y :: ys,pre,he=>by
  rw[wK,aD (Pj he),zX he,zX he,JQ he hs,yQ hs ys _ (aK he)]
  by_cases h1:y < 32
  ·have:rA y=false:=by simp[rA]; omega
   simp[h1,this]
  ·by_cases h2:y > 126
   ·have:rA y=false:=by simp[rA]; omega
    simp[h1,h2,this]
   ·have:rA y=true:=by simp[rA]; omega
    simp[h1,h2,this]
theorem qx {s:ByteArray} (hs:s.size≤9223372036854775807):s5 s=some ((plain s && decide ((s.size:Int)≤200),()),()):=by
 rw[KT]
 exact yQ hs (nD s) [] rfl
theorem zZ {s:ByteArray} {m:Int} (hs:s.size≤9223372036854775807) : ∀(ys pre:List Int),nD s=pre++ys→r5 s m (s.size:Int) (pre.length:Int)=some ((ys.all rA && decide ((s.size:Int)≤m),()),())
 | [],pre,he=>by
  rw[yK,av (L3 he)]
  simp
 | y :: ys,pre,he=>by
  rw[yK,aD (Pj he),zX he,zX he,JQ he hs,zZ hs ys _ (aK he)]
  by_cases h1:y < 32
  ·have:rA y=false:=by simp[rA]; omega
   simp[h1,this]
  ·by_cases h2:y > 126
   ·have:rA y=false:=by simp[rA]; omega
    simp[h1,h2,this]
   ·have:rA y=true:=by simp[rA]; omega
    simp[h1,h2,this]
theorem sd {s:ByteArray} {m:Int} (hs:s.size≤9223372036854775807):wA s m=some ((plain s && decide ((s.size:Int)≤m),()),()):=by
 rw[Nd]
 exact zZ hs (nD s) [] rfl
def aN (v:ay):Bool :=
 if v.1=2 then decide (v.2.1=0) && (plain v.2.2.1 && decide ((v.2.2.1.size:Int)≤200)) else
 decide (v.2.2.1=eS) && (if v.1=0 then decide (v.2.1=0) else if v.1=1 then bF v.2.1 (-1000000000000000) 1000000000000000 else if v.1=3 then bF v.2.1 0 1 else if v.1=4 then bF v.2.1 1 5 else false)
theorem my {v:ay} (h:v.2.2.1.size≤9223372036854775807):gQ v=some ((aN v,()),()):=by
 rw[KV]
 unfold aN
 simp only[eA,qx h,Option.bind_some,beq_iff_eq,jE]
 by_cases h0:v.1=0
 ·by_cases h1:v.2.1=0 <;> simp[h0,h1]
 by_cases h1:v.1=1
 ·cases bF v.2.1 (-1000000000000000) 1000000000000000 <;> simp[h1]
 by_cases h2:v.1=2
 ·by_cases h1:v.2.1=0 <;> simp[h2,h1]
 by_cases h3:v.1=3
 ·cases bF v.2.1 0 1 <;> simp[h3]
 by_cases h4:v.1=4
 ·cases bF v.2.1 1 5 <;> simp[h4]
 simp[h0,h1,h2,h3,h4]
theorem vw {v:ay} (h:v.2.2.1.size≤9223372036854775807):gT v=some ((aN v,()),()):=by
 rw[K7]
 unfold aN
 simp only[jy,sd h,Option.bind_some,beq_iff_eq,jE]
 by_cases h2:v.1=2
 ·by_cases h1:v.2.1=0 <;> simp[h2,h1]
 by_cases he:v.2.2.1=eS
 ·by_cases h0:v.1=0
  ·by_cases h1:v.2.1=0 <;> simp[h0,h1,he]
  by_cases h1:v.1=1
  ·cases bF v.2.1 (-1000000000000000) 1000000000000000 <;> simp[h1,he]
  by_cases h3:v.1=3
  ·cases bF v.2.1 0 1 <;> simp[h3,he]
  by_cases h4:v.1=4
  ·cases bF v.2.1 1 5 <;> simp[h4,he]
  simp[h0,h1,h2,h3,h4,he]
 ·simp[h2,he]
theorem il {v:ay} (h:aN v=true):v.2.2.1.size≤200:=by
 unfold aN at h
 split at h
 ·simp only[Bool.and_eq_true,decide_eq_true_eq] at h
  omega
 ·simp only[Bool.and_eq_true,decide_eq_true_eq] at h
  rw[h.1]
  decide
theorem je {v:ay} (h:aN v=true):v.2.2.1.size≤9223372036854775807:=Nat.le_trans (il h) (by decide)
def vN (n:Int):ay:=(1,n,eS,())
def vE (n:Int):ay:=(4,n,eS,())
def vB (b:Bool):ay:=(3,if b=true then 1 else 0,eS,())
def vT (s:ByteArray):ay:=(2,0,s,())
def v0:ay:=(0,0,eS,())
theorem Ch (n:Int):xK n=some ((vE n,()),()):=KW
theorem uO (n:Int):jF n=some ((vE n,()),()):=Pa
theorem Ew (n:Int):Ba n=some ((vN n,()),()):=Nf
theorem Pk (b:Bool):Eb b=some ((vB b,()),()):=by
 rw[Pb]
 cases b <;> rfl
def bnd (n:Int):ay:=if bF n (-1000000000000000) 1000000000000000=true then vN n else vE 4
section
variable {a b:ay} (ha:a.2.2.1.size≤9223372036854775807) (hb:b.2.2.1.size≤9223372036854775807)
include ha hb
end
end Go.Proofs.YtddiiceaindlhaaGreatDoor.Abs
set_option linter.unusedVariables false
set_option linter.unusedSimpArgs false
set_option linter.unusedSectionVars false
namespace Go.Proofs.YtddiiceaindlhaaGreatDoor.Abs
open Go
section
variable {a b:ay} (ha:a.2.2.1.size≤9223372036854775807) (hb:b.2.2.1.size≤9223372036854775807)
include ha hb
end
theorem Ue {n:Int} (h0:0≤n) (h1:n≤255):IntKind.u8.wrap n=n:=by
 simp only[IntKind.wrap,IntKind.bits,IntKind.signed]
 simp
 omega
theorem Ex : ∀(k u:Nat),u < 10 ^ (k+1)→(Lib.decDigits u).length≤k+1
 | 0,u,h=>by
  have h:u < 10:=by simpa using h
  rw[Lib.decDigits,dif_pos h]
  simp
 | k+1,u,h=>by
  rw[Lib.decDigits]
  split
  ·simp
  ·have:=Ex k (u / 10) (by rw[Nat.pow_succ] at h; exact Nat.div_lt_of_lt_mul (by omega))
   rw[List.length_append]
   simp only[List.length_singleton]
   omega
theorem se {x:Nat} (h:x < 10):strOfNums ([IntKind.u8.wrap (IntKind.i64.wrap (48+(x:Int)))]:List Int)=⟨#[UInt8.ofNat (48+x)]⟩:=by
 rw[wr (by omega) (by omega),Ue (by omega) (by omega)]
 unfold strOfNums
 simp only[List.map_cons,List.map_nil]
 congr 3
theorem wV {a b:ByteArray} (h:a.data.toList=b.data.toList):a=b:=by
 cases a; cases b
 congr 1
 exact Array.toList_inj.1 h
theorem Aa : ∀(n u:Nat) (acc:ByteArray),u≤n→u≤9223372036854775807→acc.size+n≤9223372036854775806→qP (u:Int) acc=some ((⟨(Lib.decDigits u).toArray⟩++acc,()),()):=by
 intro n
 induction n with
 | zero =>
  intro u acc h1 h2 h3
  have:u=0:=by omega
  subst this
  rw[tC,av (by decide),show((0:Nat):Int)=((0:Nat):Int) from rfl,se (x:=0) (by decide),j0 (by simp only[ByteArray.size]; simp; have:acc.data.size=acc.size:=rfl; omega)]
  rw[Lib.decDigits,dif_pos (by decide)]
 | succ n ih =>
  intro u acc h1 h2 h3
  rw[tC]
  have hs : ∀ c:UInt8,(⟨#[c]⟩:ByteArray).size=1:=fun _=>rfl
  by_cases h:u < 10
  ·rw[av (by omega),se h,j0 (by rw[hs]; omega)]
   rw[Lib.decDigits,dif_pos h]
  ·have e1:Int.tmod (u:Int) 10=((u % 10:Nat):Int):=by
    rw[Int.tmod_eq_emod_of_nonneg (by omega)]
    omega
   have e2:Int.tdiv (u:Int) 10=((u / 10:Nat):Int):=by
    rw[Int.tdiv_eq_ediv_of_nonneg (by omega)]
    omega
   rw[aD (by omega),e1,e2,se (Nat.mod_lt _ (by decide)),j0 (by rw[hs]; omega),wr (by omega) (by omega),ih (u / 10) _ (by omega) (by omega) (by rw[size_append,hs]; omega)]
   conv=>rhs; rw[Lib.decDigits,dif_neg h]
   congr 3
   apply wV
   simp
theorem uP (u:Nat):de (u:Int)=⟨(Lib.decDigits u).toArray⟩:=by
 unfold de Lib.itoa
 rw[if_neg (by omega)]
 simp
theorem Ab {n:Int} (h:n < 0):de n=⟨#[45]⟩++de (-n):=by
 unfold de Lib.itoa
 rw[if_pos h,if_neg (by omega)]
 apply wV
 simp
 congr 1
 omega
theorem FZ {u:Nat} (h:u≤9223372036854775807):(⟨(Lib.decDigits u).toArray⟩:ByteArray).size≤19:=by
 have:=Ex 18 u (by omega)
 simpa[ByteArray.size] using this
theorem sf {n:Int} (h0 : -9223372036854775807≤n) (h1:n≤9223372036854775807):(de n).size≤20:=by
 by_cases h:n < 0
 ·rw[Ab h,size_append,show -n=((-n).toNat:Int) by omega,uP]
  have:=FZ (u:=(-n).toNat) (by omega)
  have h1:(⟨#[45]⟩:ByteArray).size=1:=rfl
  omega
 ·rw[show n=(n.toNat:Int) by omega,uP]
  have:=FZ (u:=n.toNat) (by omega)
  omega
theorem Ey {u:Nat} (h:u≤9223372036854775807):mm (u:Int)=some ((de (u:Int),()),()):=by
 have h19:=FZ h
 rw[Hd,av (by omega),uP]
 have h2 : ∀ acc:ByteArray,acc.size=0→qP (u:Int) acc=some ((⟨(Lib.decDigits u).toArray⟩++acc,()),()):=by
  intro acc ha
  by_cases hu:u≤9223372036854775806
  ·exact Aa u u acc (Nat.le_refl _) h (by omega)
  ·have hu:u=9223372036854775807:=by omega
   subst hu
   have hs : ∀ c:UInt8,(⟨#[c]⟩:ByteArray).size=1:=fun _=>rfl
   have e1:Int.tmod ((9223372036854775807:Nat):Int) 10=((7:Nat):Int):=by decide
   have e2:Int.tdiv ((9223372036854775807:Nat):Int) 10=((922337203685477580:Nat):Int):=by decide
   rw[tC,aD (by decide),e1,e2,se (by decide),j0 (by rw[hs]; omega),wr (by omega) (by omega),Aa 922337203685477580 _ _ (by omega) (by omega) (by rw[size_append,hs]; omega)]
   conv=>rhs; rw[Lib.decDigits,dif_neg (by decide)]
   congr 3
   apply wV
   simp
 rw[h2 _ rfl]
 congr 3
 apply wV
 simp
theorem He {n:Int} (h0 : -9223372036854775807≤n) (h1:n≤9223372036854775807):mm n=some ((de n,()),()):=by
 by_cases h:n < 0
 ·have hz:=sf (n := -n) (by omega) (by omega)
  have h45:(⟨#[45]⟩:ByteArray).size=1:=rfl
  rw[Hd,aD h,wr (by omega) (by omega),show(0 - n:Int)=((-n).toNat:Int) by omega,Ey (by omega),show(((-n).toNat:Nat):Int) = -n by omega]
  simp only[Option.bind_some]
  rw[j0 (by omega),←Ab h]
 ·rw[show n=(n.toNat:Int) by omega]
  exact Ey (by omega)
theorem vx {n:Int} (h0 : -9223372036854775808≤n) (h1:n≤9223372036854775807):jp n=some ((de n,()),()):=by
 rw[K8,xX]
 show(if(10:Int)=10∧_∧_ then _ else _:Option _).bind _=_
 rw[if_pos ⟨rfl,h0,h1⟩]
 rfl
def Tf:List ByteArray:=[(⟨#[]⟩:ByteArray),(⟨#[35,68,73,86,33]⟩:ByteArray),(⟨#[35,84,89,80,69,33]⟩:ByteArray),(⟨#[35,82,69,70,33]⟩:ByteArray),(⟨#[35,79,86,69,82,33]⟩:ByteArray),(⟨#[35,67,89,67,76,69,33]⟩:ByteArray)]
def cT (n:Int):ByteArray:=Tf.getD n.toNat eS
theorem yb {n:Int} (h0:0≤n) (h1:n≤5):wt n=some ((cT n,()),()):=by
 rw[M1,iZ h0 (by show n < 6; omega)]
 rfl
theorem rk {n:Int} (h0:0≤n) (h1:n≤5):oB n=some ((cT n,()),()):=by
 rw[H0,iZ h0 (by show n < 6; omega)]
 rfl
def Ez (n:Int):ByteArray:=if n=1 then⟨#[84,82,85,69]⟩ else⟨#[70,65,76,83,69]⟩
theorem Ns (n:Int):FF n=some ((Ez n,()),()):=by
 rw[M5]
 unfold Ez
 by_cases h:n=1 <;> simp[h]
def cE (v:ay):ByteArray:=if v.1=1 then de v.2.1 else if v.1=2 then(⟨#[39]⟩:ByteArray)++v.2.2.1 else if v.1=3 then Ez v.2.1 else if v.1=4 then cT v.2.1 else eS
theorem Bk {v:ay} (h:aN v=true) (k:v.1=1) : -1000000000000000≤v.2.1∧v.2.1≤1000000000000000:=by
 unfold aN at h
 rw[if_neg (by omega),if_neg (by omega),if_pos k] at h
 simp only[Bool.and_eq_true,decide_eq_true_eq] at h
 exact bc.1 h.2
theorem L5 {v:ay} (h:aN v=true) (k:v.1=3):0≤v.2.1∧v.2.1≤1:=by
 unfold aN at h
 rw[if_neg (by omega),if_neg (by omega),if_neg (by omega),if_pos k] at h
 simp only[Bool.and_eq_true,decide_eq_true_eq] at h
 exact bc.1 h.2
theorem Bl {v:ay} (h:aN v=true) (k:v.1=4):1≤v.2.1∧v.2.1≤5:=by
 unfold aN at h
 rw[if_neg (by omega),if_neg (by omega),if_neg (by omega),if_neg (by omega),if_pos k] at h
 simp only[Bool.and_eq_true,decide_eq_true_eq] at h
 exact bc.1 h.2
theorem Nt {v:ay} (h:aN v=true):v.1=0∨v.1=1∨v.1=2∨v.1=3∨v.1=4:=by
 unfold aN at h
 split at h
 ·omega
 ·simp only[Bool.and_eq_true] at h
  have h:=h.2
  split at h
  ·omega
  ·split at h
   ·omega
   ·split at h
    ·omega
    ·split at h
     ·omega
     ·cases h
theorem Pl (n:Int):(cT n).size≤10:=by
 have h : ∀ i:Nat,i < 6→(Tf.getD i eS).size≤10:=by decide
 unfold cT
 by_cases hn:n.toNat < 6
 ·exact h _ hn
 ·rw[List.getD_eq_getElem?_getD,List.getElem?_eq_none (by show 6≤n.toNat; omega)]
  decide
theorem Pm {v:ay} (h:aN v=true):(cE v).size≤201:=by
 have hs:=il h
 unfold cE
 split
 ·have:=Bk h ‹_›
  exact Nat.le_trans (sf (by omega) (by omega)) (by decide)
 ·split
  ·rw[size_append]
   have:(⟨#[39]⟩:ByteArray).size=1:=rfl
   omega
  ·split
   ·unfold Ez
    split <;> decide
   ·split
    ·exact Nat.le_trans (Pl _) (by decide)
    ·decide
theorem Nu {β:Type} {s:ByteArray} {f:ByteArray→Option β} (h:s.size≤9223372036854775806):cats (⟨#[39]⟩:ByteArray) s f=f ((⟨#[39]⟩:ByteArray)++s):=j0 (by
 have:(⟨#[39]⟩:ByteArray).size=1:=rfl
 omega)
theorem gf {v:ay} (hs:v.2.2.1.size≤9223372036854775807):ij v=some ((if aN v=true then cE v else eS,()),()):=by
 rw[HV,my hs,Option.bind_some]
 unfold cE
 cases h:aN v
 ·rfl
 ·have hz:=il h
  simp only[Bool.not_true,Bool.false_eq_true,if_false,if_true,beq_iff_eq]
  by_cases h1:v.1=1
  ·have:=Bk h h1
   simp[h1,He (n:=v.2.1) (by omega) (by omega)]
  by_cases h2:v.1=2
  ·simp only[h2,if_true,Nu (s:=v.2.2.1) (by omega)]
   rfl
  by_cases h3:v.1=3
  ·simp[h3,Ns]
  by_cases h4:v.1=4
  ·have:=Bl h h4
   simp[h4,yb (n:=v.2.1) (by omega) (by omega)]
  simp[h1,h2,h3,h4]
theorem yR {v:ay} (h:aN v=true):fz v=some ((cE v,()),()):=by
 rw[H1]
 unfold cE
 have hz:=il h
 simp only[beq_iff_eq]
 by_cases h1:v.1=1
 ·have:=Bk h h1
  simp[h1,vx (n:=v.2.1) (by omega) (by omega)]
 by_cases h2:v.1=2
 ·simp only[h2,if_true,Nu (s:=v.2.2.1) (by omega)]
  rfl
 by_cases h3:v.1=3
 ·have:=L5 h h3
  simp only[h3,if_true]
  rw[if_neg (by decide),if_neg (by decide),if_neg (by decide),if_neg (by decide),iZ (by omega) (by show v.2.1 < 2; omega)]
  unfold Ez
  by_cases h5:v.2.1=1
  ·rw[h5]
   rfl
  ·rw[show v.2.1=0 by omega]
   rfl
 by_cases h4:v.1=4
 ·have:=Bl h h4
  simp[h4,rk (n:=v.2.1) (by omega) (by omega)]
 simp[h1,h2,h3,h4]
section
variable {a b:ay} (ha:a.2.2.1.size≤9223372036854775807) (hb:b.2.2.1.size≤9223372036854775807)
include ha hb
end
def CV (x y:Int):Int:=if x < y then -1 else if y < x then 1 else 0
theorem Hf (x y:Int):iH x y=some ((CV x y,()),()):=by
 rw[xU,qW,qW]
 unfold CV
 simp
 by_cases h:x < y
 ·simp[h]
 ·by_cases h2:y < x <;> simp[h,h2]
theorem JV {l:List Int} (hl:l.length≤100) : ∀(ys pre:List Int),l=pre++ys→mN 0 l (l.length:Int) (pre.length:Int)=some (((ys.find? fun y=>decide (y≠0)).getD 0,()),())
 | [],pre,he=>by
  rw[tE,av (bO he)]
  rfl
 | y :: ys,pre,he=>by
  rw[tE,aD (bP he),bv he,aX he (by omega),JV hl ys _ (aK he)]
  by_cases h:y=0
  ·simp[h]
  ·simp[h]
theorem QZ {l:List Int} (hl:l.length≤100):xN l=some (((l.find? fun y=>decide (y≠0)).getD 0,()),()):=by
 rw[HZ]
 exact JV hl l [] rfl
section
variable {op:Int} {a b:ay} (ha:a.2.2.1.size≤9223372036854775807) (hb:b.2.2.1.size≤9223372036854775807)
include ha hb
end
end Go.Proofs.YtddiiceaindlhaaGreatDoor.Abs
set_option linter.unusedVariables false
set_option linter.unusedSimpArgs false
set_option linter.unusedSectionVars false
namespace Go.Proofs.YtddiiceaindlhaaGreatDoor.Abs
open Go
abbrev p0:aB:=((0,0,()),false,false,())
abbrev aa.kids (x:aa):List Int:=x.2.2.2.2.2.1
def jO (op k:Int):Bool:=if op=5 then(decide (k=2) || decide (k=3)) else if bF op 1 7=true then bF k 1 10 else if bF op 8 10=true then decide (k=1) else false
def kl (x:aa):Int:=(List.length x.2.2.2.2.2.1:Int)
def bG (x:aa):Bool :=
 if x.1=1 then decide (x.2.1=0) && decide (x.2.2.2.1=p0) && decide (x.2.2.2.2.1=p0) && decide (kl x=0) && aN x.2.2.1 && !decide (x.2.2.1.1=0) && (!decide (x.2.2.1.1=1) || decide (0≤x.2.2.1.2.1))
 else if x.1=2 then decide (x.2.1=0) && decide (x.2.2.1=v0) && decide (x.2.2.2.2.1=p0) && decide (kl x=0) && ar x.2.2.2.1.1
 else if x.1=3 then decide (x.2.1=0) && decide (x.2.2.1=v0) && decide (kl x=0) && cc (x.2.2.2.1.1,x.2.2.2.2.1.1,())
 else if x.1=4 then decide (x.2.1=0) && decide (x.2.2.1=v0) && decide (x.2.2.2.1=p0) && decide (x.2.2.2.2.1=p0) && decide (kl x=1)
 else if x.1=5 then bF x.2.1 1 11 && decide (x.2.2.1=v0) && decide (x.2.2.2.1=p0) && decide (x.2.2.2.2.1=p0) && decide (kl x=2)
 else if x.1=6 then jO x.2.1 (kl x) && decide (x.2.2.1=v0) && decide (x.2.2.2.1=p0) && decide (x.2.2.2.2.1=p0)
 else false
theorem Q0 {a b:aB}:(bB be a b=true)=(a=b):=propext (sB rfl)
theorem Q1 {a b:ay}:(bB bm a b=true)=(a=b):=propext (sB rfl)
theorem RN (a b:aB):bB be a b=decide (a=b):=by
 rw[Bool.eq_iff_iff,decide_eq_true_eq,Q0]
theorem RO (a b:ay):bB bm a b=decide (a=b):=by
 rw[Bool.eq_iff_iff,decide_eq_true_eq,Q1]
theorem Nv (op k:Int):FE op k=some ((jO op k,()),()):=by
 rw[M0]
 unfold jO bF
 simp only[beq_iff_eq,decide_eq_true_eq,ge_iff_le,Nr]
 by_cases h:op=1∨op=2∨op=3∨op=4∨op=5∨op=6∨op=7∨op=8∨op=9∨op=10
 ·by_cases hk:1≤k <;> by_cases hk2:k=2 <;> rcases h with rfl | rfl | rfl | rfl | rfl | rfl | rfl | rfl | rfl | rfl <;> simp[hk,hk2] <;> omega
 ·have h1:op≠1:=by omega
  have h2:op≠2:=by omega
  have h3:op≠3:=by omega
  have h4:op≠4:=by omega
  have h5:op≠5:=by omega
  have h6:op≠6:=by omega
  have h7:op≠7:=by omega
  have h8:op≠8:=by omega
  have h9:op≠9:=by omega
  have h10:op≠10:=by omega
  have h11 : ¬(1≤op∧op≤7):=by omega
  have h12 : ¬(8≤op∧op≤10):=by omega
  simp only[h1,h2,h3,h4,h5,h6,h7,h8,h9,h10,h11,h12,if_false]
theorem fK {x:aa} (h:x.2.2.1.2.2.1.size≤9223372036854775807):bu x=some ((bG x,()),()):=by
 rw[JA]
 unfold bG kl
 simp only[my h,gB,ya,eA,Nv,Option.bind_some,beq_iff_eq,bne_iff_ne,ne_eq,Q0,Q1,RN,RO,Nr,v0,ge_iff_le]
 generalize (List.length x.2.2.2.2.2.1:Int)=k
 by_cases h1:x.1=1
 ·by_cases a1:x.2.1=0 <;> by_cases a2:x.2.2.2.1=p0 <;> by_cases a3:x.2.2.2.2.1=p0 <;> by_cases a4:k=0 <;> cases ov:aN x.2.2.1 <;> by_cases a5:x.2.2.1.1=0 <;> by_cases a6:x.2.2.1.1=1 <;> simp[a1,a2,a3,a4,a5,a6,h1,ov]
 by_cases h2:x.1=2
 ·by_cases a1:x.2.1=0 <;> by_cases a2:x.2.2.1=(0,0,eS,()) <;> by_cases a3:x.2.2.2.2.1=p0 <;> by_cases a4:k=0 <;> simp[a1,a2,a3,a4,h2]
 by_cases h3:x.1=3
 ·by_cases a1:x.2.1=0 <;> by_cases a2:x.2.2.1=(0,0,eS,()) <;> by_cases a4:k=0 <;> simp[a1,a2,a4,h3]
 by_cases h4:x.1=4
 ·by_cases a1:x.2.1=0 <;> by_cases a2:x.2.2.1=(0,0,eS,()) <;> by_cases a3:x.2.2.2.1=p0 <;> by_cases a4:x.2.2.2.2.1=p0 <;> simp[a1,a2,a3,a4,h4]
 by_cases h5:x.1=5
 ·cases hi:bF x.2.1 1 11 <;> by_cases a2:x.2.2.1=(0,0,eS,()) <;> by_cases a3:x.2.2.2.1=p0 <;> by_cases a4:x.2.2.2.2.1=p0 <;> simp[a2,a3,a4,h5,hi]
 by_cases h6:x.1=6
 ·cases hi:jO x.2.1 k <;> by_cases a2:x.2.2.1=(0,0,eS,()) <;> by_cases a3:x.2.2.2.1=p0 <;> simp[a2,a3,h6,hi]
 simp[h1,h2,h3,h4,h5,h6]
theorem EA {x:aa} (h:x.2.2.1.2.2.1.size≤9223372036854775807):tc x=some ((bG x,()),()):=by
 have c1 : ∀ a:aB,(p0=a)=(a=p0):=fun a=>propext eq_comm
 have c2 : ∀ a:ay,((0,0,eS,())=a)=(a=(0,0,eS,())):=fun a=>propext eq_comm
 rw[Em,k9,CS]
 unfold bG kl jO
 simp only[vw h,pT,lU,jy,Option.bind_some,beq_iff_eq,bne_iff_ne,ne_eq,Q0,Q1,RN,RO,Nr,v0,ge_iff_le,c1,c2]
 generalize (List.length x.2.2.2.2.2.1:Int)=k
 by_cases h1:x.1=1
 ·simp only[h1,if_true]
  by_cases a1:x.2.1=0 <;> by_cases a2:x.2.2.2.1=p0 <;> by_cases a3:x.2.2.2.2.1=p0 <;> by_cases a4:k=0 <;> cases aN x.2.2.1 <;> by_cases a5:x.2.2.1.1=0 <;> by_cases a6:x.2.2.1.1=1 <;> by_cases a7:x.2.2.1.2.1 < 0 <;> have a8:(0≤x.2.2.1.2.1) = ¬x.2.2.1.2.1 < 0:=propext (by omega) <;> simp[a1,a2,a3,a4,a5,a6,a7,a8]
 by_cases h2:x.1=2
 ·have e:cc (x.2.2.2.1.1,x.2.2.2.1.1,())=ar x.2.2.2.1.1:=by
   unfold cc
   simp
  by_cases a1:x.2.1=0 <;> by_cases a2:x.2.2.1=(0,0,eS,()) <;> by_cases a3:x.2.2.2.2.1=p0 <;> by_cases a4:k=0 <;> cases hr:ar x.2.2.2.1.1 <;> simp[a1,a2,a3,a4,h2,e,hr]
 by_cases h3:x.1=3
 ·by_cases a1:x.2.1=0 <;> by_cases a2:x.2.2.1=(0,0,eS,()) <;> by_cases a4:k=0 <;> cases hr:cc (x.2.2.2.1.1,x.2.2.2.2.1.1,()) <;> simp[a1,a2,a4,h3,hr]
 by_cases h4:x.1=4
 ·by_cases a1:x.2.1=0 <;> by_cases a2:x.2.2.1=(0,0,eS,()) <;> by_cases a3:x.2.2.2.1=p0 <;> by_cases a4:x.2.2.2.2.1=p0 <;> by_cases a5:k=1 <;> simp[a1,a2,a3,a4,a5,h4]
 by_cases h5:x.1=5
 ·cases hi:bF x.2.1 1 11 <;> by_cases a2:x.2.2.1=(0,0,eS,()) <;> by_cases a3:x.2.2.2.1=p0 <;> by_cases a4:x.2.2.2.2.1=p0 <;> by_cases a5:k=2 <;> simp[a2,a3,a4,a5,h5,hi]
 by_cases h6:x.1=6
 ·by_cases a2:x.2.2.1=(0,0,eS,()) <;> by_cases a3:x.2.2.2.1=p0 <;> by_cases a4:x.2.2.2.2.1=p0 <;> simp only[a2,a3,a4,h6,if_true,if_false,decide_true,decide_false,Bool.and_false,Bool.and_true]
  all_goals
   generalize x.2.1=op
   unfold bF
   by_cases b1:1≤op∧op≤10
   ·by_cases b2:op=5
    ·subst b2
     by_cases b3:2≤k∧k≤3
     ·have:k=2∨k=3:=by omega
      rcases this with rfl | rfl <;> simp
     ·have : ¬k=2:=by omega
      have : ¬k=3:=by omega
      simp[b3, *]
    ·by_cases b3:8≤op
     ·have b4 : ¬(op≤7):=by omega
      have b5:op≤10:=by omega
      by_cases b6:k=1 <;> simp[b1,b2,b3,b4,b5,b6]
     ·have b4:op≤7:=by omega
      by_cases b6:1≤k∧k≤10 <;> simp[b1,b2,b3,b4,b6]
   ·have b2 : ¬op=5:=by omega
    have b3 : ¬(1≤op∧op≤7):=by omega
    have b4 : ¬(8≤op∧op≤10):=by omega
    simp[b1,b2,b3,b4]
 simp[h1,h2,h3,h4,h5,h6]
end Go.Proofs.YtddiiceaindlhaaGreatDoor.Abs
set_option linter.unusedVariables false
set_option linter.unusedSimpArgs false
set_option linter.unusedSectionVars false
namespace Go.Proofs.YtddiiceaindlhaaGreatDoor.Abs
open Go
def em (f:List aa) (i:Int):Bool:=decide ((f.getD i.toNat ag.dflt).1=3)
def eW (f:List aa) (k:Int):aa:=f.getD k.toNat ag.dflt
def dQ (c:Int→Option (Int×Nat)) (f:List aa) (call:Bool):List Int→Int→Nat→Option (Int×Nat)
 | [],cur,h=>some (cur,h+1)
 | kid :: l,cur,h=>if kid=cur - 1∧0≤kid∧(em f kid=true→call=true) then(c kid).bind fun p=>dQ c f call l p.1 (max h p.2) else none
def cQ (f:List aa):Nat→Int→Option (Int×Nat)
 | 0,_=>none
 | n+1,k=>if 0≤k then match f[k.toNat]? with
  | none=>none
  | some x=>if bG x=true then dQ (cQ f n) f (decide (x.1=6)) x.2.2.2.2.2.1.reverse k 0 else none
  else none
def o4 (f:List aa) (i:Nat) (x:aa):Prop:=bG x=true ∧ ∀ k∈x.2.2.2.2.2.1,0≤k∧k < i∧(em f k=true→x.1=6)
theorem q6 {c:Int→Option (Int×Nat)} {f:List aa} {call:Bool} (hc : ∀ k s h,c k=some (s,h)→0≤s∧s≤k ∧ ∀ i:Nat,s≤i→(i:Int)≤k → ∃ x,f[i]? = some x∧o4 f i x) :
  ∀(l:List Int) (cur:Int) (h:Nat) (s:Int) (h':Nat),0≤cur→dQ c f call l cur h=some (s,h')→0≤s∧s≤cur∧h+1≤h'∧(∀ i:Nat,s≤i→(i:Int) < cur → ∃ x,f[i]? = some x∧o4 f i x) ∧ ∀ k∈l,0≤k∧k < cur∧(em f k=true→call=true)
 | [],cur,h,s,h',h0,e=>by
  simp only[dQ,Option.some.injEq,Prod.mk.injEq] at e
  obtain⟨rfl,rfl⟩:=e
  exact⟨h0,Int.le_refl _,Nat.le_refl _,fun i h1 h2=>by omega,fun k hk=>by cases hk⟩
 | kid :: l,cur,h,s,h',h0,e=>by
  simp only[dQ] at e
  split at e
  ·rename_i hk
   rw[Option.bind_eq_some_iff] at e
   obtain⟨⟨t,ht⟩,e1,e2⟩:=e
   obtain⟨a1,a2,a3⟩:=hc _ _ _ e1
   obtain⟨b1,b2,b3,b4,b5⟩:=q6 hc l t (max h ht) s h' a1 e2
   refine⟨b1,by omega,by omega,fun i h1 h2 => ?_,fun k hm => ?_⟩
   ·by_cases hi:(i:Int) < t
    ·exact b4 i h1 hi
    ·exact a3 i (by omega) (by omega)
   ·rcases List.mem_cons.1 hm with rfl | hm
    ·exact⟨hk.2.1,by omega,hk.2.2⟩
    ·have:=b5 k hm
     exact⟨this.1,by omega,this.2.2⟩
  ·cases e
theorem fd (f:List aa) : ∀(n:Nat) (k s:Int) (h:Nat),cQ f n k=some (s,h)→0≤s∧s≤k ∧ ∀ i:Nat,s≤i→(i:Int)≤k → ∃ x,f[i]? = some x∧o4 f i x
 | 0,_,_,_,e=>by cases e
 | n+1,k,s,h,e=>by
  simp only[cQ] at e
  split at e
  ·rename_i h0
   split at e
   ·cases e
   ·rename_i x hx
    split at e
    ·rename_i ho
     obtain⟨b1,b2,b3,b4,b5⟩:=q6 (fd f n) _ _ _ _ _ h0 e
     refine⟨b1,b2,fun i h1 h2 => ?_⟩
     by_cases hi:(i:Int) < k
     ·exact b4 i h1 hi
     ·have hik:i=k.toNat:=by omega
      refine⟨x,by rw[hik,hx],ho,fun k' hk' => ?_⟩
      have:=b5 k' (by simpa using hk')
      exact⟨this.1,by omega,fun ha=>by simpa using this.2.2 ha⟩
    ·cases e
  ·cases e
theorem Sj {f:List aa} {n:Nat} {k s:Int} {h:Nat} (e:cQ f n k=some (s,h)):1≤h:=by
 cases n with
 | zero=>cases e
 | succ n =>
  simp only[cQ] at e
  split at e
  ·rename_i h0
   split at e
   ·cases e
   ·split at e
    ·exact Nat.le_trans (by omega) (q6 (fd f n) _ _ _ _ _ h0 e).2.2.1
    ·cases e
  ·cases e
def mT (deep:Int):Option (Int×Nat)→Int
 | some (s,h)=>if deep+h≤12 then s else -1
 | none => -1
theorem dv {n:Int} (h0 : -1000000000≤n) (h1:n≤1000000000):IntKind.i64.wrap n=n:=wr (by omega) (by omega)
section
variable {f:List aa} (hl:f.length≤10000000) (hs : ∀ x∈f,x.2.2.1.2.2.1.size≤9223372036854775807)
include hl hs
theorem EB {n:Nat} (ih : ∀(k deep:Int),0≤k→k < n→k < f.length→0≤deep→deep≤12→xO f k deep=some ((mT deep (cQ f n k),()),())) {x:aa} {k:Int} (h0:0≤k) (hk:f[k.toNat]? = some x) (hkn:k≤n) (hkl:x.2.2.2.2.2.1.length≤10000000) :
  ∀(r suf:List Int) (cur:Int) (h:Nat) (deep:Int),x.2.2.2.2.2.1=r.reverse++suf→0≤cur→cur≤k→0≤deep→deep+h+1≤12→pR f k deep cur ((r.length:Int) - 1)=some ((mT deep (dQ (cQ f n) f (decide (x.1=6)) r cur h),()),())
 | [],suf,cur,h,deep,he,c0,c1,d0,d1=>by
  rw[Cd,av (by simp)]
  simp only[dQ,mT]
  rw[if_pos (by omega)]
 | kid :: r,suf,cur,h,deep,he,c0,c1,d0,d1=>by
  have hkl2:k < (f.length:Int):=by
   have:=(List.getElem?_eq_some_iff.1 hk).1
   omega
  have he':x.2.2.2.2.2.1=r.reverse++kid :: suf:=by rw[he]; simp
  have hlen:(((kid :: r).length:Int) - 1)=((r.reverse).length:Int):=by simp
  rw[Cd,aD (by rw[hlen]; exact nn _),dY h0 hk,hlen,bv he',dv (n:=cur - 1) (by omega) (by omega)]
  simp only[dQ]
  by_cases e1:kid=cur - 1
  ·rw[if_neg (by simp[e1])]
   by_cases e2:kid < 0
   ·rw[aD e2,if_neg (by omega)]
    rfl
   ·rw[av e2]
    have hkd:kid < (f.length:Int):=by omega
    obtain⟨y,hy⟩ : ∃ y,f[kid.toNat]? = some y:=⟨f[kid.toNat]'(by omega),List.getElem?_eq_getElem _⟩
    rw[dY (by omega) hy]
    have har:em f kid=decide (y.1=3):=by
     unfold em
     rw[List.getD_eq_getElem?_getD,hy]
     rfl
    have go:((xO f kid (IntKind.i64.wrap (deep+1))).bind fun z1=>if decide (z1.1.1 < 0)=true then some ((-1,()),()) else pR f k deep z1.1.1 (IntKind.i64.wrap (((r.reverse).length:Int) - 1)))=some ((mT deep ((cQ f n kid).bind fun p=>dQ (cQ f n) f (decide (x.1=6)) r p.1 (max h p.2)),()),()):=by
     have hlr:(r.reverse).length≤10000000:=by
      rw[he',List.length_append] at hkl
      omega
     rw[dv (by omega) (by omega),dv (by omega) (by omega),ih kid (deep+1) (by omega) (by omega) hkd (by omega) (by omega),Option.bind_some]
     cases hc:cQ f n kid with
     | none=>rfl
     | some p =>
      obtain⟨t,ht⟩:=p
      have ha:=fd f n _ _ _ hc
      by_cases hd:deep+1+ht≤12
      ·have er:mT (deep+1) (some (t,ht))=t:=if_pos hd
       simp only[er,Option.bind_some]
       rw[av (by omega),List.length_reverse,EB ih h0 hk hkn hkl r (kid :: suf) t (max h ht) deep he' (by omega) (by omega) d0 (by omega)]
      ·have er:mT (deep+1) (some (t,ht)) = -1:=if_neg hd
       simp only[er,Option.bind_some]
       rw[aD (by decide)]
       cases hq:dQ (cQ f n) f (decide (x.1=6)) r t (max h ht) with
       | none=>rfl
       | some q =>
        obtain⟨s',h'⟩:=q
        have:=(q6 (fd f n) _ _ _ _ _ (by omega) hq).2.2.1
        simp only[mT]
        rw[if_neg (by omega)]
    by_cases e3:y.1=3
    ·rw[if_pos (by simp[e3]),dY h0 hk]
     by_cases e4:x.1=6
     ·rw[if_neg (by simp[e4]),if_pos ⟨e1,by omega,fun _=>by simp[e4]⟩]
      exact go
     ·rw[if_pos (by simp[e4]),if_neg (by rw[har]; simp[e3,e4])]
      rfl
    ·rw[if_neg (by simp[e3]),if_pos ⟨e1,by omega,fun h=>by rw[har] at h; simp[e3] at h⟩]
     exact go
  ·rw[if_pos (by simpa using e1),if_neg (fun h=>e1 h.1)]
   rfl
theorem JW : ∀(n:Nat) (k deep:Int),0≤k→k < n→k < f.length→0≤deep→deep≤12→(∀ x∈f,x.2.2.2.2.2.1.length≤10000000)→xO f k deep=some ((mT deep (cQ f n k),()),())
 | 0,k,deep,h0,h1,_,_,_,_=>by omega
 | n+1,k,deep,h0,h1,h2,d0,d1,hkl=>by
  obtain⟨x,hx⟩ : ∃ y,f[k.toNat]? = some y:=⟨f[k.toNat]'(by omega),List.getElem?_eq_getElem _⟩
  have hm:x∈f:=List.mem_of_getElem? hx
  rw[QU,av (by omega)]
  by_cases hd:deep≥12
  ·rw[aD hd]
   cases hc:cQ f (n+1) k with
   | none=>rfl
   | some p =>
    obtain⟨s,h⟩:=p
    have:=Sj hc
    simp only[mT]
    rw[if_neg (by omega)]
  ·have:=hkl x hm
   rw[av hd,dY h0 hx,EA (hs x hm),Option.bind_some,dY h0 hx,dv (by omega) (by omega)]
   simp only[cQ,if_pos h0,hx]
   cases ho:bG x with
   | false=>rfl
   | true =>
    simp only[Bool.not_true,Bool.false_eq_true,if_false,if_true]
    have:=EB hl hs (n:=n) (fun k deep a b c d e=>JW n k deep a b c d e hkl) h0 hx (by omega) this x.2.2.2.2.2.1.reverse [] k 0 deep (by simp) h0 (Int.le_refl _) d0 (by omega)
    rw[List.length_reverse] at this
    exact this
def F0:Option (Int×Nat)→Int
 | some (s,_)=>s
 | none => -1
theorem Ac {n:Nat} (A : ∀(i:Nat) (x:aa),f[i]? = some x→o4 f i x) (ih : ∀(k:Int),0≤k→k < n→k < f.length→wv f k=some ((F0 (cQ f n k),()),())) {x:aa} {k:Int} (h0:0≤k) (hk:f[k.toNat]? = some x) (hkn:k≤n) (hkl:x.2.2.2.2.2.1.length≤10000000) :
  ∀(r suf:List Int) (cur:Int) (h:Nat),x.2.2.2.2.2.1=r.reverse++suf→0≤cur→cur≤k→rY f k (cur - 1) ((r.length:Int) - 1)=some ((F0 (dQ (cQ f n) f (decide (x.1=6)) r cur h),()),())
 | [],suf,cur,h,he,c0,c1=>by
  have hkl2:k < (f.length:Int):=by
   have:=(List.getElem?_eq_some_iff.1 hk).1
   omega
  rw[yF,av (by simp),dv (by omega) (by omega)]
  simp only[dQ,F0]
  congr 3
  omega
 | kid :: r,suf,cur,h,he,c0,c1=>by
  have hkl2:k < (f.length:Int):=by
   have:=(List.getElem?_eq_some_iff.1 hk).1
   omega
  have he':x.2.2.2.2.2.1=r.reverse++kid :: suf:=by rw[he]; simp
  have hlen:(((kid :: r).length:Int) - 1)=((r.reverse).length:Int):=by simp
  have hmem:kid∈x.2.2.2.2.2.1:=by rw[he']; simp
  have hst:=(A _ _ hk).2 kid hmem
  rw[yF,aD (by rw[hlen]; exact nn _)]
  simp only[dQ]
  by_cases e0:cur - 1 < 0
  ·rw[aD e0,if_neg (by omega)]
   rfl
  ·rw[av e0,dY h0 hk,hlen,bv he']
   by_cases e1:kid=cur - 1
   ·have hkd:kid < (f.length:Int):=by omega
    have hlr:(r.reverse).length≤10000000:=by
     rw[he',List.length_append] at hkl
     omega
    rw[if_neg (by simp[e1]),if_pos ⟨e1,hst.1,fun ha=>by simpa using hst.2.2 ha⟩,←e1,ih kid hst.1 (by omega) hkd,Option.bind_some,dv (n:=(r.reverse.length:Int) - 1) (by omega) (by omega)]
    cases hc:cQ f n kid with
    | none=>rfl
    | some p =>
     obtain⟨t,ht⟩:=p
     have ha:=fd f n _ _ _ hc
     have er:F0 (some (t,ht))=t:=rfl
     simp only[er,Option.bind_some]
     rw[av (by omega),dv (n:=t - 1) (by omega) (by omega),List.length_reverse,Ac A ih h0 hk hkn hkl r (kid :: suf) t (max h ht) he' (by omega) (by omega)]
   ·rw[if_pos (by simpa using e1),if_neg (fun h=>e1 h.1)]
    rfl
theorem EC (A : ∀(i:Nat) (x:aa),f[i]? = some x→o4 f i x) (hkl : ∀ x∈f,x.2.2.2.2.2.1.length≤10000000) : ∀(n:Nat) (k:Int),0≤k→k < n→k < f.length→wv f k=some ((F0 (cQ f n k),()),())
 | 0,k,h0,h1,_=>by omega
 | n+1,k,h0,h1,h2=>by
  obtain⟨x,hx⟩ : ∃ y,f[k.toNat]? = some y:=⟨f[k.toNat]'(by omega),List.getElem?_eq_getElem _⟩
  have hm:x∈f:=List.mem_of_getElem? hx
  have hk:=hkl x hm
  rw[M3,dY h0 hx,dv (n:=k - 1) (by omega) (by omega),dv (by omega) (by omega)]
  simp only[cQ,if_pos h0,hx,(A _ _ hx).1,if_true]
  have:=Ac hl hs (n:=n) A (EC A hkl n) h0 hx (by omega) hk x.2.2.2.2.2.1.reverse [] k 0 (by simp) h0 (Int.le_refl _)
  rw[List.length_reverse] at this
  exact this
def l6 (c:Int→Option (Int×Nat)):List Int→Nat
 | []=>0
 | k :: l=>max (((c k).map (·.2)).getD 0) (l6 c l)
omit hl hs in
theorem CW (c:Int→Option (Int×Nat)) (k:Int) : ∀ l,l6 c (l++[k])=max (l6 c l) (((c k).map (·.2)).getD 0)
 | []=>by simp[l6]
 | y :: l=>by
  simp only[List.cons_append,l6,CW c k l]
  omega
omit hl hs in
theorem L6 (c:Int→Option (Int×Nat)) : ∀ l,l6 c l.reverse=l6 c l
 | []=>rfl
 | y :: l=>by
  rw[List.reverse_cons,CW,L6 c l]
  simp only[l6]
  omega
omit hl hs in
theorem Hg {c:Int→Option (Int×Nat)} {call:Bool} : ∀(l:List Int) (cur:Int) (h:Nat) (s:Int) (h':Nat),dQ c f call l cur h=some (s,h')→h'=max h (l6 c l)+1 ∧ ∀ k∈l,∃ p,c k=some p
 | [],cur,h,s,h',e=>by
  simp only[dQ,Option.some.injEq,Prod.mk.injEq] at e
  exact⟨by simp only[l6]; omega,fun k hk=>by cases hk⟩
 | kid :: l,cur,h,s,h',e=>by
  simp only[dQ] at e
  split at e
  ·rw[Option.bind_eq_some_iff] at e
   obtain⟨⟨t,ht⟩,e1,e2⟩:=e
   obtain⟨b1,b2⟩:=Hg l t (max h ht) s h' e2
   refine⟨?_,fun k hk => ?_⟩
   ·simp only[l6,e1,Option.map_some,Option.getD_some]
    omega
   ·rcases List.mem_cons.1 hk with rfl | hk
    ·exact⟨_,e1⟩
    ·exact b2 k hk
  ·cases e
theorem Ad {n:Nat} {c:Int→Option (Int×Nat)} (ih : ∀(k:Int) (s:Int) (h:Nat),k < n→c k=some (s,h)→ww f k=some (((h:Int),()),())) {x:aa} {k:Int} (h0:0≤k) (hk:f[k.toNat]? = some x) (hkn:k≤n) (hkl:x.2.2.2.2.2.1.length≤10000000) (hall : ∀ k'∈x.2.2.2.2.2.1,(∃ p,c k'=some p)∧k' < k) (hb:l6 c x.2.2.2.2.2.1≤10000000) :
  ∀(ys pre:List Int),x.2.2.2.2.2.1=pre++ys→rZ f k (l6 c pre:Int) (pre.length:Int)=some ((((l6 c x.2.2.2.2.2.1+1:Nat):Int),()),())
 | [],pre,he=>by
  have:pre=x.2.2.2.2.2.1:=by rw[he]; simp
  rw[yG,dY h0 hk,av (bO he),this,dv (by omega) (by omega)]
  rfl
 | y :: ys,pre,he=>by
  obtain⟨⟨⟨s,h⟩,hc⟩,hlt⟩:=hall y (by rw[he]; simp)
  rw[yG,dY h0 hk,aD (bP he),dY h0 hk,bv he,ih y s h (by omega) hc,Option.bind_some,aX he (by omega)]
  have:(if((l6 c pre:Nat):Int) < (h:Int) then(h:Int) else((l6 c pre:Nat):Int))=(l6 c (pre++[y]):Int):=by
   rw[CW,hc]
   simp only[Option.map_some,Option.getD_some]
   split <;> omega
  rw[this]
  exact Ad ih h0 hk hkn hkl hall hb ys _ (aK he)
theorem yc (hkl : ∀ x∈f,x.2.2.2.2.2.1.length≤10000000) : ∀(n:Nat) (k s:Int) (h:Nat),cQ f n k=some (s,h)→n≤10000000→h≤n∧ww f k=some (((h:Int),()),())
 | 0,_,_,_,e,_=>by cases e
 | n+1,k,s,h,e,hn=>by
  have hall:=fd f _ _ _ _ e
  simp only[cQ] at e
  split at e
  ·rename_i h0
   split at e
   ·cases e
   ·rename_i x hx
    split at e
    ·have hm:x∈f:=List.mem_of_getElem? hx
     obtain⟨b1,b2⟩:=Hg _ _ _ _ _ e
     have hst:=q6 (fd f n) _ _ _ _ _ h0 e
     have hhm:l6 (cQ f n) x.2.2.2.2.2.1≤n:=by
      have : ∀ l:List Int,l6 (cQ f n) l≤n:=by
       intro l
       induction l with
       | nil=>exact Nat.zero_le _
       | cons y l ih =>
        simp only[l6]
        cases hc:cQ f n y with
        | none=>simpa using ih
        | some p =>
         have:=(yc hkl n y p.1 p.2 hc (by omega)).1
         simp only[Option.map_some,Option.getD_some]
         omega
      exact this _
     rw[L6] at b1
     refine⟨by omega,?_⟩
     rw[M4]
     have hk2 : ∀ k'∈x.2.2.2.2.2.1,(∃ p,cQ f n k'=some p)∧k' < k:=fun k' hk'=>⟨b2 k' (by simpa using hk'),(hst.2.2.2.2 k' (by simpa using hk')).2.1⟩
     have:=Ad hl hs (n:=k.toNat) (c:=cQ f n) (fun k' s' h' _ hc=>(yc hkl n k' s' h' hc (by omega)).2) h0 hx (by omega) (hkl x hm) hk2 (by omega) x.2.2.2.2.2.1 [] rfl
     rw[b1]
     have hz:max 0 (l6 (cQ f n) x.2.2.2.2.2.1)=l6 (cQ f n) x.2.2.2.2.2.1:=by omega
     rw[hz]
     exact this
    ·cases e
  ·cases e
end
end Go.Proofs.YtddiiceaindlhaaGreatDoor.Abs
set_option linter.unusedVariables false
set_option linter.unusedSimpArgs false
set_option linter.unusedSectionVars false
namespace Go.Proofs.YtddiiceaindlhaaGreatDoor.Abs
open Go
def o5 (f:List aa):Bool:=match cQ f f.length ((f.length:Int) - 1) with
 | some (s,h)=>decide (s=0) && (!em f ((f.length:Int) - 1) && decide ((h:Int)≤12))
 | none=>false
def fh (f:List aa):Bool:=bF (f.length:Int) 1 60 && o5 f
theorem lV {f:List aa} (h:fh f=true) (i:Nat) (x:aa) (hx:f[i]? = some x):o4 f i x:=by
 unfold fh o5 at h
 simp only[Bool.and_eq_true] at h
 obtain⟨h1,h2⟩:=h
 have h1:=bc.1 h1
 cases hc:cQ f f.length ((f.length:Int) - 1) with
 | none=>rw[hc] at h2; cases h2
 | some p =>
  obtain⟨s,d⟩:=p
  rw[hc] at h2
  simp only[Bool.and_eq_true,decide_eq_true_eq] at h2
  have hl:=(List.getElem?_eq_some_iff.1 hx).1
  obtain⟨y,hy,hs⟩:=(fd f _ _ _ _ hc).2.2 i (by omega) (by omega)
  rw[hx] at hy
  rw[Option.some.inj hy]
  exact hs
section
variable {f:List aa} (hl:f.length≤10000000) (hs : ∀ x∈f,x.2.2.1.2.2.1.size≤9223372036854775807) (hkl : ∀ x∈f,x.2.2.2.2.2.1.length≤10000000)
include hl hs hkl
theorem jP:rU f=some ((fh f,()),()):=by
 rw[H5]
 unfold fh
 simp only[jy,Option.bind_some]
 cases hb:bF (f.length:Int) 1 60 with
 | false=>rfl
 | true =>
  have hb:=bc.1 hb
  obtain⟨x,hx⟩ : ∃ y,f[((f.length:Int) - 1).toNat]? = some y:=⟨f[((f.length:Int) - 1).toNat]'(by omega),List.getElem?_eq_getElem _⟩
  have har:em f ((f.length:Int) - 1)=decide (x.1=3):=by
   unfold em
   rw[List.getD_eq_getElem?_getD,hx]
   rfl
  have hfr:=JW hl hs f.length ((f.length:Int) - 1) 0 (by omega) (by omega) (by omega) (by decide) (by decide) hkl
  simp only[if_true]
  rw[dv (by omega) (by omega),dY (by omega) hx,hfr]
  unfold o5
  rw[har]
  cases hc:cQ f f.length ((f.length:Int) - 1) with
  | none=>by_cases h3:x.1=3 <;> simp[h3,mT]
  | some p =>
   obtain⟨s,h⟩:=p
   have hp:=(fd f _ _ _ _ hc).1
   by_cases h3:x.1=3
   ·simp[h3]
   ·by_cases h4:(h:Int)≤12
    ·simp[h3,mT,h4,Nr]
    ·simp[h3,mT,h4]
theorem uQ {x:aa} {i:Nat} (hi:f[i]? = some x) (hil:i≤10000000) : ∀(ys pre:List Int),x.2.2.2.2.2.1=pre++ys →
  jJ f (i:Int) (pre.length:Int)=if(ys.all fun k=>bF k 0 ((i:Int) - 1) && (!em f k || decide (x.1=6)))=true then eu f ((i+1:Nat):Int) else some ((false,()),())
 | [],pre,he=>by
  rw[tJ,dY (nn _) (by simpa using hi),av (bO he),dv (by omega) (by omega)]
  simp
 | y :: ys,pre,he=>by
  have hm:x∈f:=List.mem_of_getElem? hi
  have:=hkl x hm
  rw[tJ,dY (nn _) (by simpa using hi),aD (bP he),dY (nn _) (by simpa using hi),bv he,eA,Option.bind_some,dv (n:=(i:Int) - 1) (by omega) (by omega),aX he (by omega)]
  have ih:=uQ hi hil ys _ (aK he)
  have hlt:=(List.getElem?_eq_some_iff.1 hi).1
  cases hy:bF y 0 ((i:Int) - 1) with
  | false=>simp[hy]
  | true =>
   have hy2:=bc.1 hy
   obtain⟨z,hz⟩ : ∃ z,f[y.toNat]? = some z:=⟨f[y.toNat]'(by omega),List.getElem?_eq_getElem _⟩
   have har:em f y=decide (z.1=3):=by
    unfold em
    rw[List.getD_eq_getElem?_getD,hz]
    rfl
   simp only[Bool.not_true,Bool.false_eq_true,if_false]
   rw[dY (by omega) hz]
   by_cases h3:z.1=3
   ·rw[if_pos (by simp[h3]),dY (nn _) (by simpa using hi)]
    by_cases h6:x.1=6
    ·rw[if_neg (by simp[h6]),ih]
     simp[hy,har,h6]
    ·rw[if_pos (by simp[h6])]
     simp[hy,har,h3,h6]
   ·rw[if_neg (by simp[h3]),ih]
    simp[hy,har,h3]
def lW (f:List aa) (i:Nat):Bool:=match f[i]? with
 | some x=>bG x && x.2.2.2.2.2.1.all fun k=>bF k 0 ((i:Int) - 1) && (!em f k || decide (x.1=6))
 | none=>true
omit hl hs hkl in
theorem Ci {i:Nat} {x:aa} (hx:f[i]? = some x):lW f i=true↔o4 f i x:=by
 unfold lW o4
 rw[hx]
 simp only[Bool.and_eq_true,List.all_eq_true,bc,Bool.or_eq_true,Bool.not_eq_true',decide_eq_true_eq]
 constructor
 ·rintro⟨h1,h2⟩
  refine⟨h1,fun k hk => ?_⟩
  obtain⟨⟨a,b⟩,c⟩:=h2 k hk
  refine⟨a,by omega,fun ha => ?_⟩
  rcases c with c | c
  ·rw[c] at ha
   cases ha
  ·exact c
 ·rintro⟨h1,h2⟩
  refine⟨h1,fun k hk => ?_⟩
  obtain⟨a,b,c⟩:=h2 k hk
  refine⟨⟨a,by omega⟩,?_⟩
  cases ha:em f k with
  | true=>exact .inr (c ha)
  | false=>exact .inl rfl
theorem ED (hne:1≤f.length) (A : ∀(i:Nat) (x:aa),f[i]? = some x→o4 f i x):eu f (f.length:Int)=some ((o5 f,()),()):=by
 obtain⟨x,hx⟩ : ∃ y,f[((f.length:Int) - 1).toNat]? = some y:=⟨f[((f.length:Int) - 1).toNat]'(by omega),List.getElem?_eq_getElem _⟩
 have har:em f ((f.length:Int) - 1)=decide (x.1=3):=by
  unfold em
  rw[List.getD_eq_getElem?_getD,hx]
  rfl
 rw[tB,av (Int.lt_irrefl _),dv (by omega) (by omega),EC hl hs A hkl f.length _ (by omega) (by omega) (by omega),Option.bind_some,dY (by omega) hx]
 unfold o5
 rw[har]
 cases hc:cQ f f.length ((f.length:Int) - 1) with
 | none=>rfl
 | some p =>
  obtain⟨s,h⟩:=p
  have er:F0 (some (s,h))=s:=rfl
  simp only[er]
  by_cases h0:s=0
  ·by_cases h3:x.1=3
   ·simp[h0,h3]
   ·rw[if_pos (by simp[h0]),if_pos (by simp[h3]),(yc hl hs hkl _ _ _ _ hc hl).2]
    simp[h0,h3]
  ·rw[if_neg (by simp[h0])]
   simp[h0]
theorem EE {i:Nat} (hi:i < f.length):eu f (i:Int)=if lW f i=true then eu f ((i+1:Nat):Int) else some ((false,()),()):=by
 obtain⟨x,hx⟩ : ∃ y,f[i]? = some y:=⟨f[i],List.getElem?_eq_getElem _⟩
 have hm:x∈f:=List.mem_of_getElem? hx
 rw[tB,aD (by omega),dY (nn _) (by simpa using hx),fK (hs x hm),Option.bind_some]
 have es:lW f i=(bG x && x.2.2.2.2.2.1.all fun k=>bF k 0 ((i:Int) - 1) && (!em f k || decide (x.1=6))):=by
  unfold lW
  rw[hx]
 rw[es]
 cases ho:bG x with
 | false=>simp
 | true =>
  have:=uQ hl hs hkl hx (by omega) x.2.2.2.2.2.1 [] rfl
  simp only[Bool.not_true,Bool.false_eq_true,if_false,Bool.true_and]
  exact this
open Classical in
theorem tL : ∀(n i:Nat),i+n=f.length→eu f (i:Int)=if(∀ j,i≤j→j < f.length→lW f j=true) then eu f (f.length:Int) else some ((false,()),())
 | 0,i,h=>by
  have:i=f.length:=by omega
  rw[this,if_pos (fun j h1 h2=>by omega)]
 | n+1,i,h=>by
  rw[EE hl hs hkl (by omega),tL n (i+1) (by omega)]
  by_cases h1:lW f i=true
  ·rw[if_pos h1]
   by_cases h2 : ∀ j,i+1≤j→j < f.length→lW f j=true
   ·rw[if_pos h2,if_pos (fun j a b=>by
     by_cases hj:j=i
     ·rw[hj]; exact h1
     ·exact h2 j (by omega) b)]
   ·rw[if_neg h2,if_neg (fun h3=>h2 fun j a b=>h3 j (by omega) b)]
  ·rw[if_neg h1,if_neg (fun h3=>h1 (h3 i (Nat.le_refl _) (by omega)))]
theorem mU:ox f=some ((fh f,()),()):=by
 rw[HU]
 by_cases h1:(f.length:Int) < 1
 ·rw[aD h1]
  have:bF (f.length:Int) 1 60=false:=by simp[bF]; omega
  simp[fh,this]
 ·rw[av h1]
  by_cases h2:(f.length:Int) > 60
  ·rw[aD h2]
   have:bF (f.length:Int) 1 60=false:=by simp[bF]; omega
   simp[fh,this]
  ·have hb:bF (f.length:Int) 1 60=true:=bc.2 (by omega)
   rw[av h2,show(0:Int)=((0:Nat):Int) from rfl,tL hl hs hkl f.length 0 (by omega)]
   by_cases A : ∀ j,0≤j→j < f.length→lW f j=true
   ·rw[if_pos A,ED hl hs hkl (by omega) fun i x hx=>(Ci hx).1 (A i (Nat.zero_le _) (List.getElem?_eq_some_iff.1 hx).1)]
    simp[fh,hb]
   ·rw[if_neg A]
    have:fh f=false:=by
     cases ho:fh f with
     | false=>rfl
     | true =>
      refine absurd (fun j _ hj => ?_) A
      have hx:f[j]? = some f[j]:=List.getElem?_eq_getElem _
      exact(Ci hx).2 (lV ho j _ hx)
    rw[this]
end
end Go.Proofs.YtddiiceaindlhaaGreatDoor.Abs
