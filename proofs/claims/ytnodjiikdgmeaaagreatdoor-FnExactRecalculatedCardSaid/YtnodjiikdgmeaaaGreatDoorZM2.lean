/- A row's frame that keeps the world's shape beside what is laid; the cell of a variable of the library's that is a number. -/
import Derived.Handed
import Derived.HandedShaped
import Derived.LaidLaws
import Derived.Stop.LaidErr
import Derived.Shelf.LaysM
import Derived.Test.YtnodjiikdgmeaaaGreatDoorZM1
import Derived.SevenTiedAt
import Derived.Test.YtnodjiikdgmeaaaGreatDoorZA3
import Derived.Test.YtnodjiikdgmeaaaGreatDoorZQAD
set_option linter.unusedVariables false
namespace Go.Proofs.YtnodjiikdgmeaaaGreatDoor.Abs
open Go Go.RowKit Go.ChangeShapes
theorem CI {W:World} (h:W.ShapedOpen Tryz.prog) : ∃ m,W.cell? ⟨7,0,none⟩=some (.int .i64 m):=Tryz.layCut.s1_3 W h
theorem ki {H:Type} {enc:TypeId×Value→H} {a:Assume} {C:Checked} {os:Os} {f:FuncId} {fn:Func} {s:ChangeSpec} {conds:List PathCond} {apart fresh handsOn again:Bool} {X:World→Array Value→Prop}
  (hX : ∀(w w':World) (args:Array Value),w.heap=w'.heap→X w args→X w' args)
  (own:ownKnob C.prog.godebug=none) (started:os.Started) (noInit:C.prog.inits.idxOf? f=none) (hfn:C.prog.funcs[f]? = some fn)
  (witness : ∃(w:World) (tape:Tape) (i:Input),w.os=os∧(w.forCall tape i).Shaped C.prog∧i.vars=[]∧Input.okWide C.prog (w.forCall tape i) .any w.heap.size f i ∧
   ((s.pre enc C.prog fn conds apart (w.forCall tape i).memory i.args∧X (w.forCall tape i).memory i.args)∧sizedMet enc C.prog fn (OpenSpec.ofChange s) apart (w.forCall tape i).memory i.args)∧a.holds C.prog (lone (Frame.enter C.prog f i.args .normal) [] (w.forCall tape i)))
  (contract : ∀(W:World) (base:Nat) (args:Array Value) (ds gs:List (DataW H)) (before:List MemPlace),
   (∀(j:Nat) t v,fn.params[j]? = some t→args[j]? = some v→Value.okWide C.prog W .any base t v) →
   DataW.Whole enc C.prog fn.params.toList s.vars apart W args.toList ds gs before →
   conds.all (PathCond.test C.prog ⟨fn.params.toList,ds,s.plain.varTypes C.prog,gs⟩)=true →
   (DataW.weightsEach C.prog (fn.params.toList++s.plain.varTypes C.prog) (ds++gs)).all (· ≤ reachBytes)=true→X W args→W.ShapedOpen C.prog →
   a.holds C.prog (lone (Frame.enter C.prog f args .normal) [] W) →
   Calls C.prog f args W fun e W' => ∃ v,e = .returned v∧s.post enc C.prog fn apart fresh handsOn again W args v W') :
  ReturnsInHanded a C os f .any (fun w args=>(s.pre enc C.prog fn conds apart w args∧X w args)∧sizedMet enc C.prog fn (OpenSpec.ofChange s) apart w args) (s.post enc C.prog fn apart fresh handsOn again):=by
 refine returnsInHanded_of_calls own started noInit witness ?_
 intro w tape i _ hsh _ hok hpre hholds
 obtain⟨_,_,_,fn',hfn',_,_,_,_,hval⟩:=hok
 have e:fn'=fn:=Option.some.inj (hfn'.symm.trans hfn)
 subst e
 obtain⟨⟨⟨ds,gs,before,hw,hc⟩,hx⟩,hz⟩:=hpre
 have hw':=DataW.Whole.of_heap (w':=w.forCall tape i) (by rfl) hw
 refine(contract (w.forCall tape i) w.heap.size i.args ds gs before hval hw' hc (hz.weights hw) (hX _ _ _ (by rfl) hx) hsh hholds).mono fun e W' ⟨v,he,hp⟩ => ?_
 subst he
 exact ChangeSpec.post_blind hp
end Go.Proofs.YtnodjiikdgmeaaaGreatDoor.Abs
namespace Go.Proofs.YtnodjiikdgmeaaaGreatDoor.Abs
open Go
theorem HV {P:Program} (h:P.funcs.any Func.goes=false) (c:OpenClaim):false=c.goesBy P:=by
 have h1 : ∀ g:FuncId,(P.funcs[g]?).any Func.goes=false:=by
  intro g
  cases hg:P.funcs[g]? with
  | none=>rfl
  | some fn =>
   rw[Option.any_some,Bool.eq_false_iff]
   intro hh
   have h2:P.funcs.any Func.goes=true:=by
    rw[Array.any_eq_true]
    obtain⟨hl,e⟩:=Array.getElem?_eq_some_iff.1 hg
    exact⟨g,hl,by rw[e]; exact hh⟩
   rw[h] at h2
   cases h2
 have h2 : ∀ f:FuncId,P.goes f=false:=by
  intro f
  unfold Program.goes
  rw[h,Bool.and_false,Bool.or_false,Bool.eq_false_iff]
  intro hh
  obtain⟨g,_,hg⟩:=List.any_eq_true.1 hh
  rw[h1 g] at hg
  cases hg
 have h3 : ∀ s:String,P.goesFrom s=false:=by
  intro s
  unfold Program.goesFrom
  cases P.funcNamed s with
  | none=>rfl
  | some f=>exact h2 f
 have h4:P.inits.toList.any P.goes=false:=by
  rw[Bool.eq_false_iff]
  intro hh
  obtain⟨g,_,hg⟩:=List.any_eq_true.1 hh
  rw[h2 g] at hg
  cases hg
 unfold OpenClaim.goesBy Program.goesAt
 rw[h3,Bool.false_or,h4]
 cases c.start <;> rfl
end Go.Proofs.YtnodjiikdgmeaaaGreatDoor.Abs
set_option linter.unusedSimpArgs false
set_option linter.unusedSectionVars false
namespace Go.Proofs.YtnodjiikdgmeaaaGreatDoor.Abs
open Go
section
variable {α β:Type}
theorem bk {xs pre ys:List α} {y d:α} {f:α→Option β} (h:xs=pre++y :: ys):ix xs (pre.length:Int) d f=f y:=by
 subst h
 have h1:((pre.length:Nat):Int) < ((pre++y :: ys).length:Int):=tB
 unfold ix
 rw[if_pos (nn _),if_pos h1,lY]
theorem bP {xs:List α} {i:Int} {y d:α} {f:α→Option β} (h0:0≤i) (h:xs[i.toNat]? = some y):ix xs i d f=f y:=by
 have h2:=(List.getElem?_eq_some_iff.1 h)
 obtain⟨h3,h4⟩:=h2
 have h1:i < (xs.length:Int):=by omega
 unfold ix
 rw[if_pos h0,if_pos h1]
 congr 1
 simp[List.getD_eq_getElem?_getD,h]
theorem bu {xs:List α} {i:Int} {k:Option β} (h0:0≤i) (h1:i < (xs.length:Int)):inb xs i k=k:=by
 unfold inb
 rw[if_pos h0,if_pos h1]
theorem lI {xs pre ys:List α} {y:α} {k:Option β} (h:xs=pre++y :: ys):inb xs (pre.length:Int) k=k:=by
 subst h
 exact bu (nn _) tB
theorem VC {s:ByteArray} {i:Int} {f:Int→Option β} (h0:0≤i) (h1:i < (s.size:Int)):dZ s i f=f (bt s i):=by
 unfold dZ
 rw[if_pos h0,if_pos h1]
theorem rt {n b:Nat} {d:α} {f:List α→Option β} (h:n*b≤140737488355328):wF (n:Int) b d f=f (List.replicate n d):=by
 unfold wF
 rw[if_pos (nn _)]
 simp only[Int.toNat_natCast]
 rw[if_pos h]
theorem ip {a b:ByteArray} {f:ByteArray→Option β} (h:a.size+b.size≤9223372036854775807):cats a b f=f (a++b):=if_pos h
theorem bv {a b:List α} {n:Nat} {f:List α→Option β} (h:(a.length+b.length)*n≤140737488355328):app a b n f=f (a++b):=if_pos h
theorem VD {s:ByteArray} {h:Int} {f:ByteArray→Option β} (h0:0≤h) (h1:h≤(s.size:Int)):Cs s h f=f (s.extract 0 h.toNat):=by
 unfold Cs
 rw[if_pos h0,if_pos h1]
theorem VE {s:ByteArray} {l:Int} {f:ByteArray→Option β} (h0:0≤l) (h1:l≤(s.size:Int)):iw s l f=f (s.extract l.toNat s.size):=by
 unfold iw
 rw[if_pos h0,if_pos h1]
theorem VF {s:ByteArray} {l h:Int} {f:ByteArray→Option β} (h0:0≤l) (h1:l≤h) (h2:h≤(s.size:Int)):uL s l h f=f (s.extract l.toNat h.toNat):=by
 unfold uL
 rw[if_pos (by omega),if_pos h2,if_pos h0,if_pos h1]
theorem Ra {xs:List α} {h:Int} {f:List α→Option β} (h0:0≤h) (h1:h≤(xs.length:Int)):Uq xs h f=f (xs.take h.toNat):=by
 unfold Uq
 rw[if_pos h0,if_pos h1]
theorem EZ {xs:List α} {l:Int} {f:List α→Option β} (h0:0≤l) (h1:l≤(xs.length:Int)):Ns xs l f=f (xs.drop l.toNat):=by
 unfold Ns
 rw[if_pos h0,if_pos h1]
theorem E0 {b:Int} {k:Option β} (h:b≠0):nz b k=k:=if_neg h
theorem bq {xs pre ys:List α} {y:α} (h:xs=pre++y :: ys):((pre.length:Nat):Int) < (xs.length:Int):=by rw[h]; exact tB
theorem bi {xs pre:List α} (h:xs=pre++[]) : ¬((pre.length:Nat):Int) < (xs.length:Int):=by rw[h,List.append_nil]; exact Int.lt_irrefl _
theorem aL {xs pre ys:List α} {y:α} (h:xs=pre++y :: ys) (hl:xs.length≤9223372036854775807):IntKind.i64.wrap ((pre.length:Int)+1)=((pre++[y]).length:Int):=by
 have:=bq h
 rw[wr (by omega) (by omega),S7]
theorem av {xs pre ys:List α} {y:α} (h:xs=pre++y :: ys):xs=(pre++[y])++ys:=by rw[h]; simp
end
def mr (s:ByteArray):List Int:=s.data.toList.map fun b=>(b.toNat:Int)
theorem xg (s:ByteArray):(mr s).length=s.size:=by
 unfold mr
 rw[List.length_map,Array.length_toList]
 rfl
theorem VG {s:ByteArray} {pre ys:List Int} {y:Int} (h:mr s=pre++y :: ys):bt s (pre.length:Int)=y:=by
 have hl:pre.length < s.size:=by rw[←xg,h]; simp
 unfold bt
 simp only[Int.toNat_natCast,hl,dite_true]
 have h1:(mr s)[pre.length]? = some y:=by rw[h]; simp
 unfold mr at h1
 rw[List.getElem?_map,Option.map_eq_some_iff] at h1
 obtain⟨b,hb,rfl⟩:=h1
 rw[List.getElem?_eq_some_iff] at hb
 obtain⟨_,hb⟩:=hb
 rw[←hb]
 simp[ByteArray.getElem_eq_getElem_data]
@[simp] theorem E1 (a b:ByteArray):mr (a++b)=mr a++mr b:=by simp[mr]
@[simp] theorem size_append (a b:ByteArray):(a++b).size=a.size+b.size:=ByteArray.size_append
theorem AQ {β:Type} {s:ByteArray} {pre ys:List Int} {y:Int} {f:Int→Option β} (h:mr s=pre++y :: ys):dZ s (pre.length:Int) f=f y:=by
 have hl:((pre.length:Nat):Int) < (s.size:Int):=by rw[←xg]; exact bq h
 rw[VC (nn _) hl,VG h]
theorem Rb {s:ByteArray} {pre ys:List Int} {y:Int} (h:mr s=pre++y :: ys):((pre.length:Nat):Int) < (s.size:Int):=by rw[←xg]; exact bq h
theorem NN {s:ByteArray} {pre:List Int} (h:mr s=pre++[]) : ¬((pre.length:Nat):Int) < (s.size:Int):=by rw[←xg]; exact bi h
theorem Kj {s:ByteArray} {pre ys:List Int} {y:Int} (h:mr s=pre++y :: ys) (hl:s.size≤9223372036854775807):IntKind.i64.wrap ((pre.length:Int)+1)=((pre++[y]).length:Int):=aL h (by rw[xg]; exact hl)
@[simp] theorem Wz {x y:ByteArray}:(x == y)=true↔x=y:=by
 cases x; cases y
 constructor
 ·intro h
  congr 1
  exact eq_of_beq h
 ·intro h
  cases h
  exact beq_self_eq_true (α:=Array UInt8) _
theorem qg : ∀ {t:Ty} {x y:t.den},cX t=true→(bN t x y=true↔x=y)
 | .int _,x,y,_=>by simp[bN]
 | .bool,x,y,_=>by simp[bN]
 | .str,x,y,_=>by
  exact Wz
 | .unit,_,_,_=>by simp[bN]
 | .pair a b,x,y,h=>by
  simp only[cX,Bool.and_eq_true] at h
  simp only[bN,Bool.and_eq_true,qg h.1,qg h.2]
  exact⟨fun⟨h1,h2⟩=>Prod.ext h1 h2,fun h=>by rw[h]; exact⟨rfl,rfl⟩⟩
 | .agg t,x,y,h=>by
  simp only[cX] at h
  simp only[bN,qg h]
 | .slice _ _,_,_,h=>by cases h
def b9 (left:Int) (n:Nat):Int:=if(n:Int)≤left then left - n else -1
theorem qh {left:Int} {a b:Nat} (h : ¬b9 left a < 0):b9 (b9 left a) b=b9 left (a+b):=by
 unfold b9 at h ⊢
 by_cases h1:(a:Int)≤left
 ·rw[if_pos h1] at h ⊢
  by_cases h2:(b:Int)≤left - a
  ·rw[if_pos h2,if_pos (by omega)]
   omega
  ·rw[if_neg h2,if_neg (by omega)]
 ·rw[if_neg h1] at h
  omega
theorem nG {left:Int} {a b:Nat} (h:b9 left a < 0):b9 left (a+b) = -1:=by
 unfold b9 at h ⊢
 split at h
 ·omega
 ·rw[if_neg (by omega)]
theorem tV {left:Int} {n:Nat} (h:0≤left):b9 left n≤left:=by
 unfold b9
 split <;> omega
theorem E2 {left:Int} {n:Nat} : ¬b9 left n < 0→(n:Int)≤left∧b9 left n=left - n:=by
 unfold b9
 split
 ·intro _
  constructor <;> first | assumption | rfl
 ·intro h
  omega
theorem xh {left:Int} {n:Nat} (h0:0≤left) (h1:left≤9223372036854775807) (hn:n≤9223372036854775807):(IntKind.i64.wrap (left - (n:Int)) < 0↔b9 left n < 0)∧(¬b9 left n < 0→IntKind.i64.wrap (left - (n:Int))=b9 left n):=by
 rw[wr (by omega) (by omega)]
 unfold b9
 split <;> constructor <;> first | omega | (intro _; rfl)
theorem Ta {left:Int} (h:0≤left):b9 left 0=left:=by
 unfold b9
 rw[if_pos (by omega)]
 omega
def nZ {α:Type} (f:α→Nat):List α→Nat
 | []=>0
 | x :: l=>f x+nZ f l
theorem NO {α:Type} {f:α→Nat} {l:List α} {x:α} (h:x∈l):f x≤nZ f l:=by
 induction l with
 | nil=>cases h
 | cons y l ih =>
  simp only[nZ]
  rcases List.mem_cons.1 h with rfl | h
  ·omega
  ·have:=ih h
   omega
theorem az {α:Type} {p:Prop} [Decidable p] {a b:α} (h:p):(if decide p=true then a else b)=a:=if_pos (decide_eq_true h)
theorem aw {α:Type} {p:Prop} [Decidable p] {a b:α} (h : ¬p):(if decide p=true then a else b)=b:=if_neg (by simpa using h)
theorem UQ {w left:Int} {n rest:Nat} {K:Int→Option ((Int×Unit)×Unit)} (hw:b9 left n=w) (h0:0≤left) (h1:left≤9223372036854775807) (hK : ∀ l,0≤l→l≤9223372036854775807→K l=some ((b9 l rest,()),())) :
  (if decide (w < 0)=true then some ((-1,()),()) else K w)=some ((b9 left (n+rest),()),()):=by
 subst hw
 by_cases hn:b9 left n < 0
 ·rw[az hn,nG hn]
 ·have:=tV (n:=n) h0
  rw[aw hn,hK _ (by omega) (by omega),qh hn]
theorem AR (l:Int) (h0:0≤l) (h1:l≤9223372036854775807):some ((l,()),())=some ((b9 l 0,()),()):=by rw[Ta h0]
section
variable {α:Type}
theorem Kk {f:α→Nat} {xs:List α} {P:Int→Int→Option ((Int×Unit)×Unit)} {c:α→Int→Option ((Int×Unit)×Unit)} {d:α}
  (hP : ∀ l i,P l i=if decide (i < (xs.length:Int))=true then ix xs i d fun y=>(c y l).bind fun z=>if decide (z.1.1 < 0)=true then some ((-1,()),()) else P z.1.1 (IntKind.i64.wrap (i+1)) else some ((l,()),()))
  (hc : ∀ y∈xs,∀ l,0≤l→l≤9223372036854775807→c y l=some ((b9 l (f y),()),())) (hl:(xs.length:Int)≤9223372036854775807) : ∀ l,0≤l→l≤9223372036854775807→P l 0=some ((b9 l (nZ f xs),()),()):=by
 have go : ∀(ys pre:List α),xs=pre++ys → ∀ l,0≤l→l≤9223372036854775807→P l (pre.length:Int)=some ((b9 l (nZ f ys),()),()):=by
  intro ys
  induction ys with
  | nil =>
   intro pre he l h0 h1
   rw[hP,aw (bi he)]
   exact AR l h0 h1
  | cons y ys ih =>
   intro pre he l h0 h1
   rw[hP,az (bq he),bk he,hc y (by rw[he]; simp) l h0 h1,Option.bind_some]
   show(if decide (b9 l (f y) < 0)=true then _ else P (b9 l (f y)) (IntKind.i64.wrap (↑pre.length+1)))=_
   generalize hw:b9 l (f y)=w
   refine UQ (K:=fun w=>P w (IntKind.i64.wrap (↑pre.length+1))) hw h0 h1 fun l' h0' h1' => ?_
   show P l' (IntKind.i64.wrap (↑pre.length+1))=_
   rw[aL he (by omega)]
   exact ih _ (av he) l' h0' h1'
 exact go xs [] rfl
theorem Dw {xs:List α} {P:Int→List α→Option ((List α×Unit)×Unit)} {c:α→Option ((α×Unit)×Unit)} {d:α}
  (hP : ∀ i zs,P i zs=if decide (i < (xs.length:Int))=true then ix xs i d fun y=>(c y).bind fun z=>inb zs i (P (IntKind.i64.wrap (i+1)) (zs.set i.toNat z.1.1)) else some ((zs,()),()))
  (hc : ∀ y∈xs,c y=some ((y,()),())) (hl:(xs.length:Int)≤9223372036854775807) : ∀ zs:List α,zs.length=xs.length→P 0 zs=some ((xs,()),()):=by
 have go : ∀(ys pre zs:List α),xs=pre++ys→zs.length=ys.length→P (pre.length:Int) (pre++zs)=some ((xs,()),()):=by
  intro ys
  induction ys with
  | nil =>
   intro pre zs he hz
   rw[hP,aw (bi he),List.eq_nil_of_length_eq_zero hz,he]
  | cons y ys ih =>
   intro pre zs he hz
   cases zs with
   | nil=>cases hz
   | cons z zs =>
    rw[hP,az (bq he),bk he,hc y (by rw[he]; simp),Option.bind_some,lI rfl,tA,aL he (by omega),show pre++y :: zs=(pre++[y])++zs by simp]
    exact ih _ zs (av he) (by simpa using hz)
 intro zs hz
 exact go xs [] zs rfl hz
theorem Dx {xs:List α} {P:Int→Option ((Bool×Unit)×Unit)} {B:α→α→Option ((Bool×Unit)×Unit)→Option ((Bool×Unit)×Unit)} {d d':α}
  (hP : ∀ i,P i=if decide (i < (xs.length:Int))=true then ix xs i d fun y=>ix xs i d' fun y'=>B y y' (P (IntKind.i64.wrap (i+1))) else some ((true,()),()))
  (hB : ∀ y∈xs,∀ k,B y y k=k) (hl:(xs.length:Int)≤9223372036854775807):P 0=some ((true,()),()):=by
 have go : ∀(ys pre:List α),xs=pre++ys→P (pre.length:Int)=some ((true,()),()):=by
  intro ys
  induction ys with
  | nil =>
   intro pre he
   rw[hP,aw (bi he)]
  | cons y ys ih =>
   intro pre he
   rw[hP,az (bq he),bk he,bk he,hB y (by rw[he]; simp),aL he (by omega)]
   exact ih _ (av he)
 exact go xs [] rfl
end
end Go.Proofs.YtnodjiikdgmeaaaGreatDoor.Abs
set_option maxRecDepth 100000
namespace Go.Proofs.YtnodjiikdgmeaaaGreatDoor.Abs
open Go Go.Proofs.YtnodjiikdgmeaaaGreatDoor
theorem OL {x0 x1}:BT x0 x1=if(decide ((IntKind.i64.wrap (x1 - (ByteArray.size x0.2.1:Int))) < 0))=true then(some (((-1),()),(()))) else(some (((IntKind.i64.wrap (x1 - (ByteArray.size x0.2.1:Int))),()),(()))):=aq (by kernel_rfl)
theorem Mk {x0 x1}:yo x0 x1=if(decide ((IntKind.i64.wrap (x1 - (List.length x0:Int))) < 0))=true then(some (((-1),()),(()))) else(vR x0 (IntKind.i64.wrap (x1 - (List.length x0:Int))) 0):=aq (by kernel_rfl)
theorem Rc {x0}:wT x0=some ((x0,()),(())):=aq (by kernel_rfl)
theorem OM {x0}:BU x0=(wT x0.1).bind fun z1=>(some (((z1.1.1,x0.2.1,()),()),(()))):=aq (by kernel_rfl)
theorem Ml {x0}:iX x0=wF (List.length x0:Int) 32 (ap.dflt) fun y1=>(vS x0 0 y1):=aq (by kernel_rfl)
theorem Mm {x0}:tD x0=qP x0 0:=aq (by kernel_rfl)
theorem E3 {x0 x1 x2 x3}:jq x0 x1 x2 x3=kN x0 x1 x2 x3:=aq (by kernel_rfl)
theorem Mn {x0 x1 x2 x3 x4}:dB x0 x1 x2 x3 x4=(jq x1 x2 x3 x4).bind fun z1=>(if z1.2.1.2.2.1=true then(some ((false,()),(z1.2.1,()))) else(if(decide ((IntKind.i64.wrap (z1.2.1.2.1+(ByteArray.size x0:Int))) > (ByteArray.size z1.2.1.1:Int)))=true then(some ((false,()),(z1.2.1,()))) else(uL z1.2.1.1 z1.2.1.2.1 (IntKind.i64.wrap (z1.2.1.2.1+(ByteArray.size x0:Int))) fun y1=>(if(!(ByteArray.toList y1 == ByteArray.toList x0))=true then(some ((false,()),(z1.2.1,()))) else(some ((true,()),((z1.2.1.1,(IntKind.i64.wrap (z1.2.1.2.1+(ByteArray.size x0:Int))),z1.2.1.2.2.1,z1.2.1.2.2.2.1,()),()))))))):=aq (by kernel_rfl)
theorem AU {x0 x1 x2 x3 x4}:eF x0 x1 x2 x3 x4=if x3=true then(some ((0,()),((x1,x2,x3,x4,()),()))) else(if(x0 == 5)=true then((uZ x1 x2 x3 x4).bind fun z1=>(some ((z1.1.1,()),(z1.2.1,())))) else((eF (IntKind.i64.wrap (x0+1)) x1 x2 x3 x4).bind fun z2=>(c8 x0 z2.1.1 z2.2.1.1 z2.2.1.2.1 z2.2.1.2.2.1 z2.2.1.2.2.2.1))):=aq (by kernel_rfl)
theorem Tb {x0 x1 x2}:kM x0 x1 x2=if(decide (x0≥x1))=true then(some (((decide (x0≤x2)),()),(()))) else(some ((false,()),(()))):=aq (by kernel_rfl)
theorem Mo {x0}:dQ x0=if(x0.1 == 0)=true then(if(x0.2.1 == 0)=true then(some (((ByteArray.toList x0.2.2.1 == ByteArray.toList (⟨#[]⟩:ByteArray)),()),(()))) else(some ((false,()),(())))) else(if(x0.1 == 1)=true then((kM x0.2.1 (-1000000000000000) 1000000000000000).bind fun z1=>(if z1.1.1=true then(some (((ByteArray.toList x0.2.2.1 == ByteArray.toList (⟨#[]⟩:ByteArray)),()),(()))) else(some ((false,()),(()))))) else(if(x0.1 == 2)=true then(if(x0.2.1 == 0)=true then((tD x0.2.2.1).bind fun z2=>(some ((z2.1.1,()),(())))) else(some ((false,()),(())))) else(if(x0.1 == 3)=true then((kM x0.2.1 0 1).bind fun z3=>(if z3.1.1=true then(some (((ByteArray.toList x0.2.2.1 == ByteArray.toList (⟨#[]⟩:ByteArray)),()),(()))) else(some ((false,()),(()))))) else(if(x0.1 == 4)=true then((kM x0.2.1 1 5).bind fun z4=>(if z4.1.1=true then(some (((ByteArray.toList x0.2.2.1 == ByteArray.toList (⟨#[]⟩:ByteArray)),()),(()))) else(some ((false,()),(()))))) else(some ((false,()),(()))))))):=aq (by kernel_rfl)
theorem Rd {x0}:d7 x0=(kM x0.1 1 52).bind fun z1=>(if z1.1.1=true then((kM x0.2.1 1 99).bind fun z2=>(some ((z2.1.1,()),(())))) else(some ((false,()),(())))):=aq (by kernel_rfl)
theorem OO {x0}:Gi x0=(d7 x0.1).bind fun z1=>(if z1.1.1=true then((d7 x0.2.1).bind fun z2=>(if z2.1.1=true then(if(decide (x0.1.1≤x0.2.1.1))=true then(some (((decide (x0.1.2.1≤x0.2.1.2.1)),()),(()))) else(some ((false,()),(())))) else(some ((false,()),(()))))) else(some ((false,()),(())))):=aq (by kernel_rfl)
theorem OP {x0 x1}:Gj x0 x1=if(x0 == 1)=true then(if(x0 == 1)=true then(if(decide (x1≥1))=true then(some (((decide (x1≤10)),()),(()))) else(some ((false,()),(())))) else(if(x0 == 5)=true then(if(x1 == 2)=true then(some ((true,()),(()))) else(some (((x1 == 3),()),(())))) else(if(x0 == 8)=true then(if(x0 == 8)=true then(some (((x1 == 1),()),(()))) else(some ((false,()),(())))) else(if(x0 == 9)=true then(if(x0 == 9)=true then(some (((x1 == 1),()),(()))) else(some ((false,()),(())))) else(if(x0 == 10)=true then(some (((x1 == 1),()),(()))) else(some ((false,()),(())))))))) else(if(x0 == 2)=true then(if(x0 == 2)=true then(if(decide (x1≥1))=true then(some (((decide (x1≤10)),()),(()))) else(some ((false,()),(())))) else(if(x0 == 5)=true then(if(x1 == 2)=true then(some ((true,()),(()))) else(some (((x1 == 3),()),(())))) else(if(x0 == 8)=true then(if(x0 == 8)=true then(some (((x1 == 1),()),(()))) else(some ((false,()),(())))) else(if(x0 == 9)=true then(if(x0 == 9)=true then(some (((x1 == 1),()),(()))) else(some ((false,()),(())))) else(if(x0 == 10)=true then(some (((x1 == 1),()),(()))) else(some ((false,()),(())))))))) else(if(x0 == 3)=true then(if(x0 == 3)=true then(if(decide (x1≥1))=true then(some (((decide (x1≤10)),()),(()))) else(some ((false,()),(())))) else(if(x0 == 5)=true then(if(x1 == 2)=true then(some ((true,()),(()))) else(some (((x1 == 3),()),(())))) else(if(x0 == 8)=true then(if(x0 == 8)=true then(some (((x1 == 1),()),(()))) else(some ((false,()),(())))) else(if(x0 == 9)=true then(if(x0 == 9)=true then(some (((x1 == 1),()),(()))) else(some ((false,()),(())))) else(if(x0 == 10)=true then(some (((x1 == 1),()),(()))) else(some ((false,()),(())))))))) else(if(x0 == 4)=true then(if(x0 == 4)=true then(if(decide (x1≥1))=true then(some (((decide (x1≤10)),()),(()))) else(some ((false,()),(())))) else(if(x0 == 5)=true then(if(x1 == 2)=true then(some ((true,()),(()))) else(some (((x1 == 3),()),(())))) else(if(x0 == 8)=true then(if(x0 == 8)=true then(some (((x1 == 1),()),(()))) else(some ((false,()),(())))) else(if(x0 == 9)=true then(if(x0 == 9)=true then(some (((x1 == 1),()),(()))) else(some ((false,()),(())))) else(if(x0 == 10)=true then(some (((x1 == 1),()),(()))) else(some ((false,()),(())))))))) else(if(x0 == 6)=true then(if(x0 == 6)=true then(if(decide (x1≥1))=true then(some (((decide (x1≤10)),()),(()))) else(some ((false,()),(())))) else(if(x0 == 5)=true then(if(x1 == 2)=true then(some ((true,()),(()))) else(some (((x1 == 3),()),(())))) else(if(x0 == 8)=true then(if(x0 == 8)=true then(some (((x1 == 1),()),(()))) else(some ((false,()),(())))) else(if(x0 == 9)=true then(if(x0 == 9)=true then(some (((x1 == 1),()),(()))) else(some ((false,()),(())))) else(if(x0 == 10)=true then(some (((x1 == 1),()),(()))) else(some ((false,()),(())))))))) else(if(x0 == 7)=true then(if(decide (x1≥1))=true then(some (((decide (x1≤10)),()),(()))) else(some ((false,()),(())))) else(if(x0 == 5)=true then(if(x1 == 2)=true then(some ((true,()),(()))) else(some (((x1 == 3),()),(())))) else(if(x0 == 8)=true then(if(x0 == 8)=true then(some (((x1 == 1),()),(()))) else(some ((false,()),(())))) else(if(x0 == 9)=true then(if(x0 == 9)=true then(some (((x1 == 1),()),(()))) else(some ((false,()),(())))) else(if(x0 == 10)=true then(some (((x1 == 1),()),(()))) else(some ((false,()),(())))))))))))):=aq (by kernel_rfl)
theorem Kl {x0}:uY x0=if(x0.1 == 1)=true then(if(x0.2.1 == 0)=true then(if(bN bw x0.2.2.2.1 ((0,0,()),false,false,()))=true then(if(bN bw x0.2.2.2.2.1 ((0,0,()),false,false,()))=true then(if((List.length x0.2.2.2.2.2.1:Int) == 0)=true then((dQ x0.2.2.1).bind fun z1=>(if z1.1.1=true then(if(x0.2.2.1.1 != 0)=true then(if(x0.2.2.1.1 != 1)=true then(some ((true,()),(()))) else(some (((decide (x0.2.2.1.2.1≥0)),()),(())))) else(some ((false,()),(())))) else(some ((false,()),(()))))) else(some ((false,()),(())))) else(some ((false,()),(())))) else(some ((false,()),(())))) else(some ((false,()),(())))) else(if(x0.1 == 2)=true then(if(x0.2.1 == 0)=true then(if(bN ag x0.2.2.1 (0,0,(⟨#[]⟩:ByteArray),()))=true then(if(bN bw x0.2.2.2.2.1 ((0,0,()),false,false,()))=true then(if((List.length x0.2.2.2.2.2.1:Int) == 0)=true then((d7 x0.2.2.2.1.1).bind fun z2=>(some ((z2.1.1,()),(())))) else(some ((false,()),(())))) else(some ((false,()),(())))) else(some ((false,()),(())))) else(some ((false,()),(())))) else(if(x0.1 == 3)=true then(if(x0.2.1 == 0)=true then(if(bN ag x0.2.2.1 (0,0,(⟨#[]⟩:ByteArray),()))=true then(if((List.length x0.2.2.2.2.2.1:Int) == 0)=true then((Gi (x0.2.2.2.1.1,x0.2.2.2.2.1.1,())).bind fun z3=>(some ((z3.1.1,()),(())))) else(some ((false,()),(())))) else(some ((false,()),(())))) else(some ((false,()),(())))) else(if(x0.1 == 4)=true then(if(x0.2.1 == 0)=true then(if(bN ag x0.2.2.1 (0,0,(⟨#[]⟩:ByteArray),()))=true then(if(bN bw x0.2.2.2.1 ((0,0,()),false,false,()))=true then(if(bN bw x0.2.2.2.2.1 ((0,0,()),false,false,()))=true then(some ((((List.length x0.2.2.2.2.2.1:Int) == 1),()),(()))) else(some ((false,()),(())))) else(some ((false,()),(())))) else(some ((false,()),(())))) else(some ((false,()),(())))) else(if(x0.1 == 5)=true then((kM x0.2.1 1 11).bind fun z4=>(if z4.1.1=true then(if(bN ag x0.2.2.1 (0,0,(⟨#[]⟩:ByteArray),()))=true then(if(bN bw x0.2.2.2.1 ((0,0,()),false,false,()))=true then(if(bN bw x0.2.2.2.2.1 ((0,0,()),false,false,()))=true then(some ((((List.length x0.2.2.2.2.2.1:Int) == 2),()),(()))) else(some ((false,()),(())))) else(some ((false,()),(())))) else(some ((false,()),(())))) else(some ((false,()),(()))))) else(if(x0.1 == 6)=true then((Gj x0.2.1 (List.length x0.2.2.2.2.2.1:Int)).bind fun z5=>(if z5.1.1=true then(if(bN ag x0.2.2.1 (0,0,(⟨#[]⟩:ByteArray),()))=true then(if(bN bw x0.2.2.2.1 ((0,0,()),false,false,()))=true then(some (((bN bw x0.2.2.2.2.1 ((0,0,()),false,false,())),()),(()))) else(some ((false,()),(())))) else(some ((false,()),(())))) else(some ((false,()),(()))))) else(some ((false,()),(())))))))):=aq (by kernel_rfl)
theorem Km {x0 x1 x2 x3 x4}:bT x0 x1 x2 x3 x4=app x4 ([x0]:(List aa)) 120 fun y1=>(if(decide ((List.length y1:Int) > 60))=true then(some (((IntKind.i64.wrap ((List.length y1:Int) - 1)),()),((x1,x2,true,y1,()),()))) else((uY x0).bind fun z1=>(if(!z1.1.1)=true then(some (((IntKind.i64.wrap ((List.length y1:Int) - 1)),()),((x1,x2,true,y1,()),()))) else(some (((IntKind.i64.wrap ((List.length y1:Int) - 1)),()),((x1,x2,x3,y1,()),())))))):=aq (by kernel_rfl)
theorem Iy {x0 x1 x2 x3}:yp x0 x1 x2 x3=ke (⟨#[]⟩:ByteArray) x0 x1 x2 x3:=aq (by kernel_rfl)
theorem OQ {x0}:wU x0=inb ([(⟨#[]⟩:ByteArray),(⟨#[35,68,73,86,33]⟩:ByteArray),(⟨#[35,84,89,80,69,33]⟩:ByteArray),(⟨#[35,82,69,70,33]⟩:ByteArray),(⟨#[35,79,86,69,82,33]⟩:ByteArray),(⟨#[35,67,89,67,76,69,33]⟩:ByteArray)]:(List ByteArray)) x0 (some (((List.getD ([(⟨#[]⟩:ByteArray),(⟨#[35,68,73,86,33]⟩:ByteArray),(⟨#[35,84,89,80,69,33]⟩:ByteArray),(⟨#[35,82,69,70,33]⟩:ByteArray),(⟨#[35,79,86,69,82,33]⟩:ByteArray),(⟨#[35,67,89,67,76,69,33]⟩:ByteArray)]:(List ByteArray)) (Int.toNat x0) (⟨#[]⟩:ByteArray)),()),(()))):=aq (by kernel_rfl)
theorem Mp {x0}:cp x0=some (((4,x0,(⟨#[]⟩:ByteArray),()),()),(())):=aq (by kernel_rfl)
theorem Iz {x0 x1 x2 x3}:l8 x0 x1 x2 x3=dF x1 x0 x1 x2 x3:=aq (by kernel_rfl)
theorem Tc {x0}:I8 x0=inb ([(⟨#[]⟩:ByteArray),(⟨#[83,85,77]⟩:ByteArray),(⟨#[77,73,78]⟩:ByteArray),(⟨#[77,65,88]⟩:ByteArray),(⟨#[67,79,85,78,84]⟩:ByteArray),(⟨#[73,70]⟩:ByteArray),(⟨#[65,78,68]⟩:ByteArray),(⟨#[79,82]⟩:ByteArray),(⟨#[78,79,84]⟩:ByteArray),(⟨#[65,66,83]⟩:ByteArray),(⟨#[76,69,78]⟩:ByteArray)]:(List ByteArray)) x0 (some (((List.getD ([(⟨#[]⟩:ByteArray),(⟨#[83,85,77]⟩:ByteArray),(⟨#[77,73,78]⟩:ByteArray),(⟨#[77,65,88]⟩:ByteArray),(⟨#[67,79,85,78,84]⟩:ByteArray),(⟨#[73,70]⟩:ByteArray),(⟨#[65,78,68]⟩:ByteArray),(⟨#[79,82]⟩:ByteArray),(⟨#[78,79,84]⟩:ByteArray),(⟨#[65,66,83]⟩:ByteArray),(⟨#[76,69,78]⟩:ByteArray)]:(List ByteArray)) (Int.toNat x0) (⟨#[]⟩:ByteArray)),()),(()))):=aq (by kernel_rfl)
theorem Mq {x0}:tE x0=(kM x0 1 52).bind fun z1=>(if(!z1.1.1)=true then(some (((⟨#[]⟩:ByteArray),()),(()))) else(vU x0 (⟨#[]⟩:ByteArray))):=aq (by kernel_rfl)
theorem Mr {x0}:qb x0=vV x0 1:=aq (by kernel_rfl)
theorem Re {x0 x1}:cM x0 x1=if(decide ((ByteArray.size x0:Int) < 1))=true then(some ((0,false,()),(()))) else(if(decide ((ByteArray.size x0:Int) > x1))=true then(some ((0,false,()),(()))) else(dZ x0 0 fun y1=>(if(y1 == 48)=true then(if(decide ((ByteArray.size x0:Int) > 1))=true then(some ((0,false,()),(()))) else(nY x0 0 0)) else(nY x0 0 0)))):=aq (by kernel_rfl)
theorem IA {x0}:l9 x0=if(decide ((ByteArray.size x0:Int) > 0))=true then(dZ x0 0 fun y1=>(if(y1 == 36)=true then(iw x0 1 fun y2=>(im y2 0 0 0 false false 0 0 true false)) else(im x0 0 0 0 false false 0 0 false false))) else(im x0 0 0 0 false false 0 0 false false):=aq (by kernel_rfl)
theorem Kn {x0 x1 x2 x3}:rf x0 x1 x2 x3=(jq x0 x1 x2 x3).bind fun z1=>((l8 z1.2.1.1 z1.2.1.2.1 z1.2.1.2.2.1 z1.2.1.2.2.2.1).bind fun z2=>((l9 z2.1.1).bind fun z3=>(if z3.1.2.1=true then((dB (⟨#[58]⟩:ByteArray) z2.2.1.1 z2.2.1.2.1 z2.2.1.2.2.1 z2.2.1.2.2.2.1).bind fun z4=>(if z4.1.1=true then((jq z4.2.1.1 z4.2.1.2.1 z4.2.1.2.2.1 z4.2.1.2.2.2.1).bind fun z5=>((l8 z5.2.1.1 z5.2.1.2.1 z5.2.1.2.2.1 z5.2.1.2.2.2.1).bind fun z6=>((l9 z6.1.1).bind fun z7=>(if(!z7.1.2.1)=true then(some ((0,()),((z6.2.1.1,z6.2.1.2.1,true,z6.2.1.2.2.2.1,()),()))) else((bT (3,0,(0,0,(⟨#[]⟩:ByteArray),()),z3.1.1,z7.1.1,([]:(List Int)),()) z6.2.1.1 z6.2.1.2.1 z6.2.1.2.2.1 z6.2.1.2.2.2.1).bind fun z8=>(some ((z8.1.1,()),(z8.2.1,())))))))) else((eF 1 z4.2.1.1 z1.2.1.2.1 z4.2.1.2.2.1 z4.2.1.2.2.2.1).bind fun z9=>(some ((z9.1.1,()),(z9.2.1,())))))) else((eF 1 z2.2.1.1 z1.2.1.2.1 z2.2.1.2.2.1 z2.2.1.2.2.2.1).bind fun z10=>(some ((z10.1.1,()),(z10.2.1,()))))))):=aq (by kernel_rfl)
theorem IB {x0 x1 x2 x3 x4}:yq x0 x1 x2 x3 x4=rR x0 x1 x2 x3 x4 ([]:(List Int)):=aq (by kernel_rfl)
theorem IC {x0}:jQ x0=if(ByteArray.toList x0 == ByteArray.toList (⟨#[]⟩:ByteArray))=true then(some (((0,0,(⟨#[]⟩:ByteArray),()),true,()),(()))) else(dZ x0 0 fun y1=>(if(y1 == 39)=true then(iw x0 1 fun y2=>(aG 0 0 (⟨#[]⟩:ByteArray) 2 0 y2)) else(if(ByteArray.toList x0 == ByteArray.toList (⟨#[84,82,85,69]⟩:ByteArray))=true then(if(ByteArray.toList x0 == ByteArray.toList (⟨#[84,82,85,69]⟩:ByteArray))=true then(if(ByteArray.toList x0 == ByteArray.toList (⟨#[84,82,85,69]⟩:ByteArray))=true then(aG 0 0 (⟨#[]⟩:ByteArray) 3 1 (⟨#[]⟩:ByteArray)) else(aG 0 0 (⟨#[]⟩:ByteArray) 3 0 (⟨#[]⟩:ByteArray))) else(dZ x0 0 fun y3=>(if(y3 == 35)=true then(eJ x0 1 0 0 (⟨#[]⟩:ByteArray) 4 0 (⟨#[]⟩:ByteArray)) else(dZ x0 0 fun y4=>(if(y4 == 45)=true then(iw x0 1 fun y5=>((cM y5 16).bind fun z1=>(if(!z1.1.2.1)=true then(some (((0,0,(⟨#[]⟩:ByteArray),()),false,()),(()))) else(if(y4 == 45)=true then(if(z1.1.1 == 0)=true then(some (((0,0,(⟨#[]⟩:ByteArray),()),false,()),(()))) else(if(y4 == 45)=true then(aG 0 0 (⟨#[]⟩:ByteArray) 1 (IntKind.i64.wrap (0 - z1.1.1)) (⟨#[]⟩:ByteArray)) else(aG 0 0 (⟨#[]⟩:ByteArray) 1 z1.1.1 (⟨#[]⟩:ByteArray)))) else(if(y4 == 45)=true then(aG 0 0 (⟨#[]⟩:ByteArray) 1 (IntKind.i64.wrap (0 - z1.1.1)) (⟨#[]⟩:ByteArray)) else(aG 0 0 (⟨#[]⟩:ByteArray) 1 z1.1.1 (⟨#[]⟩:ByteArray))))))) else((cM x0 16).bind fun z2=>(if(!z2.1.2.1)=true then(some (((0,0,(⟨#[]⟩:ByteArray),()),false,()),(()))) else(if(y4 == 45)=true then(if(z2.1.1 == 0)=true then(some (((0,0,(⟨#[]⟩:ByteArray),()),false,()),(()))) else(if(y4 == 45)=true then(aG 0 0 (⟨#[]⟩:ByteArray) 1 (IntKind.i64.wrap (0 - z2.1.1)) (⟨#[]⟩:ByteArray)) else(aG 0 0 (⟨#[]⟩:ByteArray) 1 z2.1.1 (⟨#[]⟩:ByteArray)))) else(if(y4 == 45)=true then(aG 0 0 (⟨#[]⟩:ByteArray) 1 (IntKind.i64.wrap (0 - z2.1.1)) (⟨#[]⟩:ByteArray)) else(aG 0 0 (⟨#[]⟩:ByteArray) 1 z2.1.1 (⟨#[]⟩:ByteArray))))))))))) else(if(ByteArray.toList x0 == ByteArray.toList (⟨#[70,65,76,83,69]⟩:ByteArray))=true then(if(ByteArray.toList x0 == ByteArray.toList (⟨#[84,82,85,69]⟩:ByteArray))=true then(aG 0 0 (⟨#[]⟩:ByteArray) 3 1 (⟨#[]⟩:ByteArray)) else(aG 0 0 (⟨#[]⟩:ByteArray) 3 0 (⟨#[]⟩:ByteArray))) else(dZ x0 0 fun y6=>(if(y6 == 35)=true then(eJ x0 1 0 0 (⟨#[]⟩:ByteArray) 4 0 (⟨#[]⟩:ByteArray)) else(dZ x0 0 fun y7=>(if(y7 == 45)=true then(iw x0 1 fun y8=>((cM y8 16).bind fun z3=>(if(!z3.1.2.1)=true then(some (((0,0,(⟨#[]⟩:ByteArray),()),false,()),(()))) else(if(y7 == 45)=true then(if(z3.1.1 == 0)=true then(some (((0,0,(⟨#[]⟩:ByteArray),()),false,()),(()))) else(if(y7 == 45)=true then(aG 0 0 (⟨#[]⟩:ByteArray) 1 (IntKind.i64.wrap (0 - z3.1.1)) (⟨#[]⟩:ByteArray)) else(aG 0 0 (⟨#[]⟩:ByteArray) 1 z3.1.1 (⟨#[]⟩:ByteArray)))) else(if(y7 == 45)=true then(aG 0 0 (⟨#[]⟩:ByteArray) 1 (IntKind.i64.wrap (0 - z3.1.1)) (⟨#[]⟩:ByteArray)) else(aG 0 0 (⟨#[]⟩:ByteArray) 1 z3.1.1 (⟨#[]⟩:ByteArray))))))) else((cM x0 16).bind fun z4=>(if(!z4.1.2.1)=true then(some (((0,0,(⟨#[]⟩:ByteArray),()),false,()),(()))) else(if(y7 == 45)=true then(if(z4.1.1 == 0)=true then(some (((0,0,(⟨#[]⟩:ByteArray),()),false,()),(()))) else(if(y7 == 45)=true then(aG 0 0 (⟨#[]⟩:ByteArray) 1 (IntKind.i64.wrap (0 - z4.1.1)) (⟨#[]⟩:ByteArray)) else(aG 0 0 (⟨#[]⟩:ByteArray) 1 z4.1.1 (⟨#[]⟩:ByteArray)))) else(if(y7 == 45)=true then(aG 0 0 (⟨#[]⟩:ByteArray) 1 (IntKind.i64.wrap (0 - z4.1.1)) (⟨#[]⟩:ByteArray)) else(aG 0 0 (⟨#[]⟩:ByteArray) 1 z4.1.1 (⟨#[]⟩:ByteArray)))))))))))))):=aq (by kernel_rfl)
theorem Ko {x0 x1 x2 x3}:uZ x0 x1 x2 x3=(dB (⟨#[45]⟩:ByteArray) x0 x1 x2 x3).bind fun z1=>(if z1.1.1=true then((eF 5 z1.2.1.1 z1.2.1.2.1 z1.2.1.2.2.1 z1.2.1.2.2.2.1).bind fun z2=>((bT (4,0,(0,0,(⟨#[]⟩:ByteArray),()),((0,0,()),false,false,()),((0,0,()),false,false,()),([z2.1.1]:(List Int)),()) z2.2.1.1 z2.2.1.2.1 z2.2.1.2.2.1 z2.2.1.2.2.2.1).bind fun z3=>(some ((z3.1.1,()),(z3.2.1,()))))) else((dB (⟨#[40]⟩:ByteArray) z1.2.1.1 z1.2.1.2.1 z1.2.1.2.2.1 z1.2.1.2.2.2.1).bind fun z4=>(if z4.1.1=true then((eF 1 z4.2.1.1 z4.2.1.2.1 z4.2.1.2.2.1 z4.2.1.2.2.2.1).bind fun z5=>((dB (⟨#[41]⟩:ByteArray) z5.2.1.1 z5.2.1.2.1 z5.2.1.2.2.1 z5.2.1.2.2.2.1).bind fun z6=>(if(!z6.1.1)=true then(some ((z5.1.1,()),((z6.2.1.1,z6.2.1.2.1,true,z6.2.1.2.2.2.1,()),()))) else(some ((z5.1.1,()),(z6.2.1,())))))) else((dB (⟨#[34]⟩:ByteArray) z4.2.1.1 z4.2.1.2.1 z4.2.1.2.2.1 z4.2.1.2.2.2.1).bind fun z7=>(if z7.1.1=true then((yp z7.2.1.1 z7.2.1.2.1 z7.2.1.2.2.1 z7.2.1.2.2.2.1).bind fun z8=>(some ((z8.1.1,()),(z8.2.1,())))) else((dB (⟨#[35]⟩:ByteArray) z7.2.1.1 z7.2.1.2.1 z7.2.1.2.2.1 z7.2.1.2.2.2.1).bind fun z9=>(if z9.1.1=true then(io 1 z9.2.1.1 z9.2.1.2.1 z9.2.1.2.2.1 z9.2.1.2.2.2.1) else((l8 z9.2.1.1 z9.2.1.2.1 z9.2.1.2.2.1 z9.2.1.2.2.2.1).bind fun z10=>(fb z10.1.1 1 z10.2.1.1 z10.2.1.2.1 z10.2.1.2.2.1 z10.2.1.2.2.2.1))))))))):=aq (by kernel_rfl)
theorem Ms {x0}:tF x0=if(decide (x0≥6))=true then(some ((1,()),(()))) else(if(x0 == 5)=true then(some ((2,()),(()))) else(if(decide (x0≥3))=true then(some ((4,()),(()))) else(some ((3,()),(()))))):=aq (by kernel_rfl)
theorem OS {x0}:wV x0=inb ([(⟨#[]⟩:ByteArray),(⟨#[43]⟩:ByteArray),(⟨#[45]⟩:ByteArray),(⟨#[42]⟩:ByteArray),(⟨#[47]⟩:ByteArray),(⟨#[38]⟩:ByteArray),(⟨#[61]⟩:ByteArray),(⟨#[60,62]⟩:ByteArray),(⟨#[60]⟩:ByteArray),(⟨#[60,61]⟩:ByteArray),(⟨#[62]⟩:ByteArray),(⟨#[62,61]⟩:ByteArray)]:(List ByteArray)) x0 (some (((List.getD ([(⟨#[]⟩:ByteArray),(⟨#[43]⟩:ByteArray),(⟨#[45]⟩:ByteArray),(⟨#[42]⟩:ByteArray),(⟨#[47]⟩:ByteArray),(⟨#[38]⟩:ByteArray),(⟨#[61]⟩:ByteArray),(⟨#[60,62]⟩:ByteArray),(⟨#[60]⟩:ByteArray),(⟨#[60,61]⟩:ByteArray),(⟨#[62]⟩:ByteArray),(⟨#[62,61]⟩:ByteArray)]:(List ByteArray)) (Int.toNat x0) (⟨#[]⟩:ByteArray)),()),(()))):=aq (by kernel_rfl)
theorem Mt {x0 x1 x2 x3 x4}:Dl x0 x1 x2 x3 x4=qQ x0 0 x1 x2 x3 x4 ([7,9,11,6,8,10,1,2,3,4,5]:(List Int)):=aq (by kernel_rfl)
theorem OT {x0 x1}:wW x0 x1=ix x0 x1 (ai.dflt) fun y1=>(sJ x0 x1 (IntKind.i64.wrap (x1 - 1)) (IntKind.i64.wrap ((List.length y1.2.2.2.2.2.1:Int) - 1))):=aq (by kernel_rfl)
theorem OU {x0 x1}:wX x0 x1=sK x0 x1 0 0:=aq (by kernel_rfl)
theorem IE {x0}:ma x0=if(decide ((List.length x0:Int) < 1))=true then(some ((false,()),(()))) else(if(decide ((List.length x0:Int) > 60))=true then(some ((false,()),(()))) else(ep x0 0)):=aq (by kernel_rfl)
theorem E4 {x0}:ll x0=(tD x0).bind fun z1=>(if(!z1.1.1)=true then(some ((([]:(List aa)),false,()),(()))) else((eF 1 x0 0 false ([]:(List aa))).bind fun z2=>((jq z2.2.1.1 z2.2.1.2.1 z2.2.1.2.2.1 z2.2.1.2.2.2.1).bind fun z3=>(if z3.2.1.2.2.1=true then(some ((([]:(List aa)),false,()),(()))) else(if(decide (z3.2.1.2.1 < (ByteArray.size x0:Int)))=true then(some ((([]:(List aa)),false,()),(()))) else((ma z3.2.1.2.2.2.1).bind fun z4=>(if(!z4.1.1)=true then(some ((([]:(List aa)),false,()),(()))) else(some ((z3.2.1.2.2.2.1,true,()),(())))))))))):=aq (by kernel_rfl)
theorem Mu {x0}:Dn x0=mO x0 (⟨#[34]⟩:ByteArray) 0:=aq (by kernel_rfl)
theorem HW {x0}:mL x0=if(decide (x0 < 0))=true then((mL (IntKind.i64.wrap (0 - x0))).bind fun z1=>(cats (⟨#[45]⟩:ByteArray) z1.1.1 fun y1=>(some ((y1,()),(()))))) else(rn x0 (⟨#[]⟩:ByteArray)):=aq (by kernel_rfl)
theorem OV {x0}:Gk x0=if(x0 == 1)=true then(some (((⟨#[84,82,85,69]⟩:ByteArray),()),(()))) else(some (((⟨#[70,65,76,83,69]⟩:ByteArray),()),(()))):=aq (by kernel_rfl)
theorem IG {x0}:gl x0=(dQ x0).bind fun z1=>(if(!z1.1.1)=true then(some (((⟨#[]⟩:ByteArray),()),(()))) else(if(x0.1 == 1)=true then((mL x0.2.1).bind fun z2=>(some ((z2.1.1,()),(())))) else(if(x0.1 == 2)=true then(cats (⟨#[39]⟩:ByteArray) x0.2.2.1 fun y1=>(some ((y1,()),(())))) else(if(x0.1 == 3)=true then((Gk x0.2.1).bind fun z3=>(some ((z3.1.1,()),(())))) else(if(x0.1 == 4)=true then((wU x0.2.1).bind fun z4=>(some ((z4.1.1,()),(())))) else(some (((⟨#[]⟩:ByteArray),()),(())))))))):=aq (by kernel_rfl)
theorem II {x0}:oP x0=(d7 x0.1).bind fun z1=>(if(!z1.1.1)=true then(some (((⟨#[]⟩:ByteArray),()),(()))) else((tE x0.1.1).bind fun z2=>(if x0.2.1=true then(cats (⟨#[36]⟩:ByteArray) z2.1.1 fun y1=>(if x0.2.2.1=true then(cats y1 (⟨#[36]⟩:ByteArray) fun y2=>((mL x0.1.2.1).bind fun z3=>(cats y2 z3.1.1 fun y3=>(some ((y3,()),(())))))) else((mL x0.1.2.1).bind fun z4=>(cats y1 z4.1.1 fun y4=>(some ((y4,()),(()))))))) else(if x0.2.2.1=true then(cats z2.1.1 (⟨#[36]⟩:ByteArray) fun y5=>((mL x0.1.2.1).bind fun z5=>(cats y5 z5.1.1 fun y6=>(some ((y6,()),(())))))) else((mL x0.1.2.1).bind fun z6=>(cats z2.1.1 z6.1.1 fun y7=>(some ((y7,()),(()))))))))):=aq (by kernel_rfl)
theorem OW {x0 x1 x2}:mb x0 x1 x2=ix x0 x1 (ai.dflt) fun y1=>(if(y1.1 == 1)=true then(if(y1.2.2.1.1 == 2)=true then((Dn y1.2.2.1.2.2.1).bind fun z1=>(some ((z1.1.1,()),(())))) else((gl y1.2.2.1).bind fun z2=>(some ((z2.1.1,()),(()))))) else(if(y1.1 == 2)=true then((oP y1.2.2.2.1).bind fun z3=>(some ((z3.1.1,()),(())))) else(if(y1.1 == 3)=true then((oP y1.2.2.2.1).bind fun z4=>(cats z4.1.1 (⟨#[58]⟩:ByteArray) fun y2=>((oP y1.2.2.2.2.1).bind fun z5=>(cats y2 z5.1.1 fun y3=>(some ((y3,()),(()))))))) else(if(y1.1 == 4)=true then(ix y1.2.2.2.2.2.1 0 0 fun y4=>((mb x0 y4 5).bind fun z6=>(cats (⟨#[45]⟩:ByteArray) z6.1.1 fun y5=>(some ((y5,()),(())))))) else(if(y1.1 == 5)=true then((tF y1.2.1).bind fun z7=>(ix y1.2.2.2.2.2.1 0 0 fun y6=>((mb x0 y6 z7.1.1).bind fun z8=>((wV y1.2.1).bind fun z9=>(cats z8.1.1 z9.1.1 fun y7=>(ix y1.2.2.2.2.2.1 1 0 fun y8=>((mb x0 y8 (IntKind.i64.wrap (z7.1.1+1))).bind fun z10=>(cats y7 z10.1.1 fun y9=>(if(decide (z7.1.1 < x2))=true then(cats (⟨#[40]⟩:ByteArray) y9 fun y10=>(cats y10 (⟨#[41]⟩:ByteArray) fun y11=>(some ((y11,()),(()))))) else(some ((y9,()),(())))))))))))) else((I8 y1.2.1).bind fun z11=>(cats z11.1.1 (⟨#[40]⟩:ByteArray) fun y12=>(mP x0 y12 0 y1.1 y1.2.1 y1.2.2.1 y1.2.2.2.1 y1.2.2.2.2.1 y1.2.2.2.2.2.1)))))))):=aq (by kernel_rfl)
theorem E5 {x0}:tG x0=(ma x0).bind fun z1=>(if(!z1.1.1)=true then(some (((⟨#[]⟩:ByteArray),()),(()))) else((mb x0 (IntKind.i64.wrap ((List.length x0:Int) - 1)) 0).bind fun z2=>(if(decide ((ByteArray.size z2.1.1:Int) > 200))=true then(some (((⟨#[]⟩:ByteArray),()),(()))) else(some ((z2.1.1,()),(())))))):=aq (by kernel_rfl)
theorem Kp {x0}:AJ x0=if(decide ((ByteArray.size x0:Int) > 0))=true then(dZ x0 0 fun y1=>(if(y1 == 45)=true then(iw x0 1 fun y2=>(if(ByteArray.toList y2 == ByteArray.toList (⟨#[]⟩:ByteArray))=true then(some (((0,0,(⟨#[]⟩:ByteArray),()),false,()),(()))) else(jt y2 (y1 == 45) 0 0 (⟨#[]⟩:ByteArray)))) else(if(ByteArray.toList x0 == ByteArray.toList (⟨#[]⟩:ByteArray))=true then(some (((0,0,(⟨#[]⟩:ByteArray),()),false,()),(()))) else(jt x0 (y1 == 45) 0 0 (⟨#[]⟩:ByteArray))))) else(if(ByteArray.toList x0 == ByteArray.toList (⟨#[]⟩:ByteArray))=true then(some (((0,0,(⟨#[]⟩:ByteArray),()),false,()),(()))) else(jt x0 false 0 0 (⟨#[]⟩:ByteArray))):=aq (by kernel_rfl)
theorem Mv {x0}:yr x0=(tD x0).bind fun z1=>(if(!z1.1.1)=true then(some (((⟨#[]⟩:ByteArray),false,()),(()))) else(if(ByteArray.toList x0 == ByteArray.toList (⟨#[]⟩:ByteArray))=true then(some (((⟨#[]⟩:ByteArray),true,()),(()))) else(dZ x0 0 fun y1=>(if(y1 == 61)=true then(iw x0 1 fun y2=>((ll y2).bind fun z2=>((tG z2.1.1).bind fun z3=>(if(!z2.1.2.1)=true then(some (((⟨#[]⟩:ByteArray),false,()),(()))) else(if(ByteArray.toList z3.1.1 == ByteArray.toList (⟨#[]⟩:ByteArray))=true then(some (((⟨#[]⟩:ByteArray),false,()),(()))) else(if(decide ((IntKind.i64.wrap ((ByteArray.size z3.1.1:Int)+1)) > 200))=true then(some (((⟨#[]⟩:ByteArray),false,()),(()))) else(cats (⟨#[61]⟩:ByteArray) z3.1.1 fun y3=>(some ((y3,true,()),(())))))))))) else((AJ x0).bind fun z4=>(if z4.1.2.1=true then((gl z4.1.1).bind fun z5=>(some ((z5.1.1,true,()),(())))) else((jQ x0).bind fun z6=>(if(!z6.1.2.1)=true then((gl (2,0,x0,())).bind fun z7=>(if(decide ((ByteArray.size z7.1.1:Int) > 200))=true then(some (((⟨#[]⟩:ByteArray),false,()),(()))) else(some ((z7.1.1,true,()),(()))))) else((gl z6.1.1).bind fun z8=>(if(decide ((ByteArray.size z8.1.1:Int) > 200))=true then(some (((⟨#[]⟩:ByteArray),false,()),(()))) else(some ((z8.1.1,true,()),(()))))))))))))):=aq (by kernel_rfl)
theorem CJ {x0 x1}:qc x0 x1=if(decide (x0.2.1 < x1.2.1))=true then(some ((true,()),(()))) else(if(x0.2.1 == x1.2.1)=true then(some (((decide (x0.1 < x1.1)),()),(()))) else(some ((false,()),(())))):=aq (by kernel_rfl)
end Go.Proofs.YtnodjiikdgmeaaaGreatDoor.Abs
namespace Go.Proofs.YtnodjiikdgmeaaaGreatDoor.Abs
open Go Go.Proofs.YtnodjiikdgmeaaaGreatDoor
theorem Mw {x0}:yt x0=if(decide ((List.length x0:Int) > 120))=true then(some ((false,()),(()))) else(mR x0 0):=aq (by kernel_rfl)
theorem Rf {x0 x1}:lm x0 x1=u9 x0 0 x1.1 x1.2.1:=aq (by kernel_rfl)
theorem Td {x0 x1}:I9 x0 x1=yD x0 0 x1.1 x1.2.1 0 0 (⟨#[]⟩:ByteArray):=aq (by kernel_rfl)
theorem Te {x0 x1}:EY x0 x1=yE x0 0 x1.1 x1.2.1:=aq (by kernel_rfl)
theorem IJ {x0}:oQ x0=if(ByteArray.toList x0 == ByteArray.toList (⟨#[]⟩:ByteArray))=true then(some ((([]:(List aa)),false,()),(()))) else(dZ x0 0 fun y1=>(if(y1 != 61)=true then(some ((([]:(List aa)),false,()),(()))) else(iw x0 1 fun y2=>((ll y2).bind fun z1=>(some (z1.1,(()))))))):=aq (by kernel_rfl)
theorem Mx {x0}:Dp x0=(ma x0).bind fun z1=>(if(!z1.1.1)=true then(some ((([]:(List aJ)),()),(()))) else(kv x0 0 ([]:(List aJ)))):=aq (by kernel_rfl)
theorem My {x0}:tH x0=(oQ x0).bind fun z1=>(if(!z1.1.2.1)=true then(some ((([]:(List aJ)),()),(()))) else((Dp z1.1.1).bind fun z2=>(some ((z2.1.1,()),(()))))):=aq (by kernel_rfl)
theorem Kq {x0 x1}:rg x0 x1=(kM x0.1 x1.1.1 x1.2.1.1).bind fun z1=>(if z1.1.1=true then((kM x0.2.1 x1.1.2.1 x1.2.1.2.1).bind fun z2=>(some ((z2.1.1,()),(())))) else(some ((false,()),(())))):=aq (by kernel_rfl)
theorem Mz {x0 x1}:nq x0 x1=(EY x0 x1).bind fun z1=>((tH z1.1.1).bind fun z2=>(iZ x0 0 ([]:(List al)) z2.1.1)):=aq (by kernel_rfl)
theorem Kr {x0 x1}:u1 x0 x1=(nq x0 x1).bind fun z1=>(lz x0 0 x1.1 x1.2.1 z1.1.1):=aq (by kernel_rfl)
theorem Rg {x0 x1}:j7 x0 x1=va x0 0 x1.1 x1.2.1:=aq (by kernel_rfl)
theorem Ks {x0}:u2 x0=if(decide ((List.length x0:Int) > 120))=true then(some ((false,()),(()))) else(lA x0 0):=aq (by kernel_rfl)
theorem OX {x0 x1 x2}:eG x0 x1 x2=ix x0 x1 (ai.dflt) fun y1=>(if(y1.1 == 1)=true then(some ((y1.2.2.1,()),(()))) else(if(y1.1 == 2)=true then((I9 x2 y1.2.2.2.1.1).bind fun z1=>(some ((z1.1.1,()),(())))) else(if(y1.1 == 3)=true then((cp 2).bind fun z2=>(some ((z2.1.1,()),(())))) else(if(y1.1 == 4)=true then(ix y1.2.2.2.2.2.1 0 0 fun y2=>((eG x0 y2 x2).bind fun z3=>((yu z3.1.1).bind fun z4=>(some ((z4.1.1,()),(())))))) else(if(y1.1 == 6)=true then((NH x0 x1 x2).bind fun z5=>(some ((z5.1.1,()),(())))) else(ix y1.2.2.2.2.2.1 0 0 fun y3=>((eG x0 y3 x2).bind fun z6=>(ix y1.2.2.2.2.2.1 1 0 fun y4=>((eG x0 y4 x2).bind fun z7=>(if(y1.2.1 == 1)=true then((Dq z6.1.1 z7.1.1).bind fun z8=>(some ((z8.1.1,()),(())))) else(if(y1.2.1 == 2)=true then((OD z6.1.1 z7.1.1).bind fun z9=>(some ((z9.1.1,()),(())))) else(if(y1.2.1 == 3)=true then((Ka z6.1.1 z7.1.1).bind fun z10=>(some ((z10.1.1,()),(())))) else(if(y1.2.1 == 4)=true then((OE z6.1.1 z7.1.1).bind fun z11=>(some ((z11.1.1,()),(())))) else(if(y1.2.1 == 5)=true then((Gn z6.1.1 z7.1.1).bind fun z12=>(some ((z12.1.1,()),(())))) else((OF y1.2.1 z6.1.1 z7.1.1).bind fun z13=>(some ((z13.1.1,()),(())))))))))))))))))):=aq (by kernel_rfl)
theorem Rh {x0}:AK x0=(dQ x0).bind fun z1=>(if(!z1.1.1)=true then((cp 2).bind fun z2=>(some ((0,z2.1.1,()),(())))) else(if(x0.1 == 0)=true then(if(x0.1 == 0)=true then(some ((x0.2.1,(0,0,(⟨#[]⟩:ByteArray),()),()),(()))) else(if(x0.1 == 4)=true then(some ((0,x0,()),(()))) else((cp 2).bind fun z3=>(some ((0,z3.1.1,()),(())))))) else(if(x0.1 == 1)=true then(some ((x0.2.1,(0,0,(⟨#[]⟩:ByteArray),()),()),(()))) else(if(x0.1 == 4)=true then(some ((0,x0,()),(()))) else((cp 2).bind fun z4=>(some ((0,z4.1.1,()),(())))))))):=aq (by kernel_rfl)
theorem Ri {x0}:gR x0=(kM x0 (-1000000000000000) 1000000000000000).bind fun z1=>(if(!z1.1.1)=true then((cp 4).bind fun z2=>(some ((z2.1.1,()),(())))) else(some (((1,x0,(⟨#[]⟩:ByteArray),()),()),(())))):=aq (by kernel_rfl)
theorem MA {x0}:yu x0=(AK x0).bind fun z1=>(if(z1.1.2.1.1 != 0)=true then(some ((z1.1.2.1,()),(()))) else((gR (IntKind.i64.wrap (0 - z1.1.1))).bind fun z2=>(some ((z2.1.1,()),(()))))):=aq (by kernel_rfl)
theorem OY {x0}:s8 x0=if(x0.1 == 3)=true then(some (((x0.2.1 == 1),(0,0,(⟨#[]⟩:ByteArray),()),()),(()))) else(if(x0.1 == 1)=true then(some (((x0.2.1 != 0),(0,0,(⟨#[]⟩:ByteArray),()),()),(()))) else(if(x0.1 == 0)=true then(some ((false,(0,0,(⟨#[]⟩:ByteArray),()),()),(()))) else(if(x0.1 == 4)=true then(some ((false,x0,()),(()))) else((cp 2).bind fun z1=>(some ((false,z1.1.1,()),(()))))))):=aq (by kernel_rfl)
theorem OZ {x0}:ij x0=if x0=true then(some (((3,1,(⟨#[]⟩:ByteArray),()),()),(()))) else(some (((3,0,(⟨#[]⟩:ByteArray),()),()),(()))):=aq (by kernel_rfl)
theorem Rj {x0 x1}:wY x0 x1=(AK x0).bind fun z1=>(if(z1.1.2.1.1 != 0)=true then(some ((0,0,z1.1.2.1,()),(()))) else((AK x1).bind fun z2=>(some ((z1.1.1,z2.1.1,z2.1.2.1,()),(()))))):=aq (by kernel_rfl)
theorem UR {x0 x1}:Dq x0 x1=(wY x0 x1).bind fun z1=>(if(z1.1.2.2.1.1 != 0)=true then(some ((z1.1.2.2.1,()),(()))) else((gR (IntKind.i64.wrap (z1.1.1+z1.1.2.1))).bind fun z2=>(some ((z2.1.1,()),(()))))):=aq (by kernel_rfl)
theorem O0 {x0}:wZ x0=(dQ x0).bind fun z1=>(if(!z1.1.1)=true then((cp 2).bind fun z2=>(some (((⟨#[]⟩:ByteArray),z2.1.1,()),(())))) else(if(x0.1 == 4)=true then(some (((⟨#[]⟩:ByteArray),x0,()),(()))) else(if(x0.1 == 2)=true then(some ((x0.2.2.1,(0,0,(⟨#[]⟩:ByteArray),()),()),(()))) else((gl x0).bind fun z3=>(some ((z3.1.1,(0,0,(⟨#[]⟩:ByteArray),()),()),(()))))))):=aq (by kernel_rfl)
theorem O1 {x0 x1 x2}:Gl x0 x1 x2=me x0 x1 x2 0 ([]:(List ab)):=aq (by kernel_rfl)
theorem O2 {x0 x1}:Gm x0 x1=aY x0 x1 0 true false 0 0 0 (⟨#[]⟩:ByteArray) 1 0 (⟨#[]⟩:ByteArray):=aq (by kernel_rfl)
theorem O3 {x0 x1 x2}:NH x0 x1 x2=ix x0 x1 (ai.dflt) fun y1=>(if(y1.2.1 == 5)=true then(ix y1.2.2.2.2.2.1 0 0 fun y2=>((eG x0 y2 x2).bind fun z1=>((s8 z1.1.1).bind fun z2=>(if(z2.1.2.1.1 != 0)=true then(some ((z2.1.2.1,()),(()))) else(if z2.1.1=true then(ix y1.2.2.2.2.2.1 1 0 fun y3=>((eG x0 y3 x2).bind fun z3=>(some ((z3.1.1,()),(()))))) else(if((List.length y1.2.2.2.2.2.1:Int) == 2)=true then((ij false).bind fun z4=>(some ((z4.1.1,()),(())))) else(ix y1.2.2.2.2.2.1 2 0 fun y4=>((eG x0 y4 x2).bind fun z5=>(some ((z5.1.1,()),(()))))))))))) else(if(y1.2.1 == 8)=true then(ix y1.2.2.2.2.2.1 0 0 fun y5=>((eG x0 y5 x2).bind fun z6=>((s8 z6.1.1).bind fun z7=>(if(z7.1.2.1.1 != 0)=true then(some ((z7.1.2.1,()),(()))) else((ij (!z7.1.1)).bind fun z8=>(some ((z8.1.1,()),(())))))))) else(if(y1.2.1 == 9)=true then(ix y1.2.2.2.2.2.1 0 0 fun y6=>((eG x0 y6 x2).bind fun z9=>((Dq z9.1.1 (0,0,(⟨#[]⟩:ByteArray),())).bind fun z10=>(if(z10.1.1.1 == 1)=true then(if(decide (z10.1.1.2.1 < 0))=true then((yu z10.1.1).bind fun z11=>(some ((z11.1.1,()),(())))) else(some ((z10.1.1,()),(())))) else(some ((z10.1.1,()),(()))))))) else(if(y1.2.1 == 10)=true then(ix y1.2.2.2.2.2.1 0 0 fun y7=>((eG x0 y7 x2).bind fun z12=>((wZ z12.1.1).bind fun z13=>(if(z13.1.2.1.1 != 0)=true then(some ((z13.1.2.1,()),(()))) else((gR (ByteArray.size z13.1.1:Int)).bind fun z14=>(some ((z14.1.1,()),(())))))))) else((Gl x0 x1 x2).bind fun z15=>((Gm y1.2.1 z15.1.1).bind fun z16=>(some ((z16.1.1,()),(()))))))))):=aq (by kernel_rfl)
theorem Tf {x0 x1}:OD x0 x1=(wY x0 x1).bind fun z1=>(if(z1.1.2.2.1.1 != 0)=true then(some ((z1.1.2.2.1,()),(()))) else((gR (IntKind.i64.wrap (z1.1.1 - z1.1.2.1))).bind fun z2=>(some ((z2.1.1,()),(()))))):=aq (by kernel_rfl)
theorem Rk {x0 x1}:Ka x0 x1=(wY x0 x1).bind fun z1=>(if(z1.1.2.2.1.1 != 0)=true then(some ((z1.1.2.2.1,()),(()))) else(if(z1.1.1 == 0)=true then((gR 0).bind fun z2=>(some ((z2.1.1,()),(())))) else(if(z1.1.2.1 == 0)=true then((gR 0).bind fun z3=>(some ((z3.1.1,()),(())))) else(if(decide (z1.1.1 < 0))=true then(if(decide (z1.1.2.1 < 0))=true then(nz (IntKind.i64.wrap (0 - z1.1.2.1)) (if(decide ((IntKind.i64.wrap (0 - z1.1.1)) > (IntKind.i64.wrap (Int.tdiv 1000000000000000 (IntKind.i64.wrap (0 - z1.1.2.1))))))=true then((cp 4).bind fun z4=>(some ((z4.1.1,()),(())))) else((gR (IntKind.i64.wrap (z1.1.1*z1.1.2.1))).bind fun z5=>(some ((z5.1.1,()),(())))))) else(nz z1.1.2.1 (if(decide ((IntKind.i64.wrap (0 - z1.1.1)) > (IntKind.i64.wrap (Int.tdiv 1000000000000000 z1.1.2.1))))=true then((cp 4).bind fun z6=>(some ((z6.1.1,()),(())))) else((gR (IntKind.i64.wrap (z1.1.1*z1.1.2.1))).bind fun z7=>(some ((z7.1.1,()),(()))))))) else(if(decide (z1.1.2.1 < 0))=true then(nz (IntKind.i64.wrap (0 - z1.1.2.1)) (if(decide (z1.1.1 > (IntKind.i64.wrap (Int.tdiv 1000000000000000 (IntKind.i64.wrap (0 - z1.1.2.1))))))=true then((cp 4).bind fun z8=>(some ((z8.1.1,()),(())))) else((gR (IntKind.i64.wrap (z1.1.1*z1.1.2.1))).bind fun z9=>(some ((z9.1.1,()),(())))))) else(nz z1.1.2.1 (if(decide (z1.1.1 > (IntKind.i64.wrap (Int.tdiv 1000000000000000 z1.1.2.1))))=true then((cp 4).bind fun z10=>(some ((z10.1.1,()),(())))) else((gR (IntKind.i64.wrap (z1.1.1*z1.1.2.1))).bind fun z11=>(some ((z11.1.1,()),(()))))))))))):=aq (by kernel_rfl)
theorem Tg {x0 x1}:OE x0 x1=(wY x0 x1).bind fun z1=>(if(z1.1.2.2.1.1 != 0)=true then(some ((z1.1.2.2.1,()),(()))) else(if(z1.1.2.1 == 0)=true then((cp 1).bind fun z2=>(some ((z2.1.1,()),(())))) else(nz z1.1.2.1 ((gR (IntKind.i64.wrap (Int.tdiv z1.1.1 z1.1.2.1))).bind fun z3=>(some ((z3.1.1,()),(()))))))):=aq (by kernel_rfl)
theorem O4 {x0 x1}:Gn x0 x1=(wZ x0).bind fun z1=>(if(z1.1.2.1.1 != 0)=true then(some ((z1.1.2.1,()),(()))) else((wZ x1).bind fun z2=>(if(z2.1.2.1.1 != 0)=true then(some ((z2.1.2.1,()),(()))) else(if(decide ((IntKind.i64.wrap ((ByteArray.size z1.1.1:Int)+(ByteArray.size z2.1.1:Int))) > 200))=true then((cp 4).bind fun z3=>(some ((z3.1.1,()),(())))) else(cats z1.1.1 z2.1.1 fun y1=>(some (((2,0,y1,()),()),(())))))))):=aq (by kernel_rfl)
theorem O5 {x0 x1}:BV x0 x1=if(x0.1 == 0)=true then(some (((x1.1,x0.2.1,x0.2.2.1,()),()),(()))) else(some ((x0,()),(()))):=aq (by kernel_rfl)
theorem O6 {x0 x1}:w6 x0 x1=if x0=true then(some (((-1),()),(()))) else(if x1=true then(some ((1,()),(()))) else(some ((0,()),(())))):=aq (by kernel_rfl)
theorem Rl {x0 x1}:Kb x0 x1=if(x0.1 != x1.1)=true then((w6 (decide (x0.1 < x1.1)) true).bind fun z1=>(some ((z1.1.1,()),(())))) else(if(x0.2.1 != x1.2.1)=true then((w6 (decide (x0.2.1 < x1.2.1)) true).bind fun z2=>(some ((z2.1.1,()),(())))) else((w6 (Op.bytesLess (ByteArray.toList x0.2.2.1) (ByteArray.toList x1.2.2.1)) (!(Op.bytesLess (ByteArray.toList x0.2.2.1) (ByteArray.toList x1.2.2.1) || (ByteArray.toList x0.2.2.1 == ByteArray.toList x1.2.2.1)))).bind fun z3=>(some ((z3.1.1,()),(()))))):=aq (by kernel_rfl)
theorem Th {x0 x1 x2}:OF x0 x1 x2=(dQ x1).bind fun z1=>(if(!z1.1.1)=true then((cp 2).bind fun z2=>(some ((z2.1.1,()),(())))) else((dQ x2).bind fun z3=>(if(!z3.1.1)=true then((cp 2).bind fun z4=>(some ((z4.1.1,()),(())))) else((kM x0 6 11).bind fun z5=>(if(!z5.1.1)=true then((cp 2).bind fun z6=>(some ((z6.1.1,()),(())))) else(if(x1.1 == 4)=true then(some ((x1,()),(()))) else(if(x2.1 == 4)=true then(some ((x2,()),(()))) else((BV x1 x2).bind fun z7=>((BV x2 x1).bind fun z8=>((Kb z7.1.1 z8.1.1).bind fun z9=>(if(x0 == 6)=true then((ij (z9.1.1 == 0)).bind fun z10=>(some ((z10.1.1,()),(())))) else(if(x0 == 7)=true then((ij (z9.1.1 != 0)).bind fun z11=>(some ((z11.1.1,()),(())))) else(if(x0 == 8)=true then((ij (decide (z9.1.1 < 0))).bind fun z12=>(some ((z12.1.1,()),(())))) else(if(x0 == 9)=true then((ij (decide (z9.1.1≤0))).bind fun z13=>(some ((z13.1.1,()),(())))) else(if(x0 == 10)=true then((ij (decide (z9.1.1 > 0))).bind fun z14=>(some ((z14.1.1,()),(())))) else((ij (decide (z9.1.1≥0))).bind fun z15=>(some ((z15.1.1,()),(()))))))))))))))))))):=aq (by kernel_rfl)
theorem Ti {x0 x1}:u3 x0 x1=(ma x0).bind fun z1=>(if(!z1.1.1)=true then((cp 3).bind fun z2=>(some ((z2.1.1,()),(())))) else((u2 x1).bind fun z3=>(if(!z3.1.1)=true then((cp 3).bind fun z4=>(some ((z4.1.1,()),(())))) else((eG x0 (IntKind.i64.wrap ((List.length x0:Int) - 1)) x1).bind fun z5=>(if(z5.1.1.1 == 0)=true then((gR 0).bind fun z6=>(some ((z6.1.1,()),(())))) else(some ((z5.1.1,()),(())))))))):=aq (by kernel_rfl)
theorem O7 {x0 x1 x2}:w7 x0 x1 x2=pj x0 x1 x2 0 ([]:(List ac)) ([]:(List al)):=aq (by kernel_rfl)
theorem Rm {x0}:Kc x0=vb x0 0 ([]:(List al)):=aq (by kernel_rfl)
theorem Kt {x0}:AL x0=(yt x0).bind fun z1=>(if(!z1.1.1)=true then(some ((([]:(List ac)),()),(()))) else((Kc x0).bind fun z2=>(some ((z2.1.1,()),(()))))):=aq (by kernel_rfl)
theorem O8 {x0 x1 x2}:eH x0 x1 x2=if(decide (x0≥x1))=true then(some (((decide (x0≤x2)),()),(()))) else(some ((false,()),(()))):=aq (by kernel_rfl)
theorem Rn {x0}:rh x0=(eH x0.1 1 52).bind fun z1=>(if z1.1.1=true then((eH x0.2.1 1 99).bind fun z2=>(some ((z2.1.1,()),(())))) else(some ((false,()),(())))):=aq (by kernel_rfl)
theorem ru {x0}:oS x0=some (((x0 != x0),()),(())):=aq (by kernel_rfl)
theorem yH {x0 x1}:eY x0 x1=(oS x0).bind fun z1=>((oS x1).bind fun z2=>(if z1.1.1=true then(if z2.1.1=true then(some ((0,()),(()))) else(some (((-1),()),(())))) else(if z2.1.1=true then(some ((1,()),(()))) else(if(decide (x0 < x1))=true then(some (((-1),()),(()))) else(if(decide (x0 > x1))=true then(some ((1,()),(()))) else(some ((0,()),(())))))))):=aq (by kernel_rfl)
theorem IK {x0}:sH x0=m9 0 x0 (List.length x0:Int) 0:=aq (by kernel_rfl)
theorem vg {x0 x1}:lp x0 x1=(eY x0.2.1 x1.2.1).bind fun z1=>((eY x0.1 x1.1).bind fun z2=>((sH ([z1.1.1,z2.1.1]:(List Int))).bind fun z3=>(some ((z3.1.1,()),(()))))):=aq (by kernel_rfl)
theorem O9 {x0 x1}:w8 x0 x1=sL x0 x1 (ByteArray.size x0:Int) 0:=aq (by kernel_rfl)
theorem tW {x0 x1}:eI x0 x1=if(decide ((ByteArray.size x0:Int)≥(ByteArray.size x1:Int)))=true then(Cs x0 (ByteArray.size x1:Int) fun y1=>(some (((ByteArray.toList y1 == ByteArray.toList x1),()),(())))) else(some ((false,()),(()))):=aq (by kernel_rfl)
theorem tX {x0 x1}:nW x0 x1=(eI x0 x1).bind fun z1=>(if(!z1.1.1)=true then(some ((x0,false,()),(()))) else(iw x0 (ByteArray.size x1:Int) fun y1=>(some ((y1,true,()),(()))))):=aq (by kernel_rfl)
theorem yI {x0 x1}:cc x0 x1=(nW x0 x1).bind fun z1=>(some (z1.1,(()))):=aq (by kernel_rfl)
theorem zS {x0 x1}:gT x0 x1=(oD) [.val .str x0,.val .str x1] []:=aq (by kernel_rfl)
theorem Ci {x0 x1 x2}:gE x0 x1 x2=(gT x0 (⟨#[32]⟩:ByteArray)).bind fun z1=>(some ((()),((z1.1.1,x2,x1,()),()))):=aq (by kernel_rfl)
theorem yJ {x0 x1}:dR x0 x1=(eI x0 x1).bind fun z1=>(some ((z1.1.1,()),(()))):=aq (by kernel_rfl)
theorem E6 {x0 x1 x2}:oT x0 x1 x2=(gE x0 x1 x2).bind fun z1=>(kO (List.length ([(⟨#[60,62]⟩:ByteArray),(⟨#[60,61]⟩:ByteArray),(⟨#[62,61]⟩:ByteArray),(⟨#[60]⟩:ByteArray),(⟨#[62]⟩:ByteArray),(⟨#[61]⟩:ByteArray),(⟨#[38]⟩:ByteArray),(⟨#[43]⟩:ByteArray),(⟨#[45]⟩:ByteArray),(⟨#[42]⟩:ByteArray),(⟨#[47]⟩:ByteArray),(⟨#[40]⟩:ByteArray),(⟨#[41]⟩:ByteArray),(⟨#[44]⟩:ByteArray),(⟨#[58]⟩:ByteArray)]:(List ByteArray)):Int) 0 z1.2.1.1 z1.2.1.2.2.1 ([(⟨#[60,62]⟩:ByteArray),(⟨#[60,61]⟩:ByteArray),(⟨#[62,61]⟩:ByteArray),(⟨#[60]⟩:ByteArray),(⟨#[62]⟩:ByteArray),(⟨#[61]⟩:ByteArray),(⟨#[38]⟩:ByteArray),(⟨#[43]⟩:ByteArray),(⟨#[45]⟩:ByteArray),(⟨#[42]⟩:ByteArray),(⟨#[47]⟩:ByteArray),(⟨#[40]⟩:ByteArray),(⟨#[41]⟩:ByteArray),(⟨#[44]⟩:ByteArray),(⟨#[58]⟩:ByteArray)]:(List ByteArray)) z1.2.1.2.1):=aq (by kernel_rfl)
theorem E7 {x0 x1 x2 x3}:bz x0 x1 x2 x3=(oT x1 x2 x3).bind fun z1=>(if(!(ByteArray.toList z1.1.1 == ByteArray.toList x0))=true then(some ((false,()),(z1.2.1,()))) else(iw z1.2.1.1 (ByteArray.size x0:Int) fun y1=>(some ((true,()),((y1,z1.2.1.2.1,z1.2.1.2.2.1,()),()))))):=aq (by kernel_rfl)
theorem tY {x0 x1 x2 x3}:j8 x0 x1 x2 x3=if(decide (x0 > 400))=true then(some (((-1),()),((x1,x3,true,()),()))) else(if x2=true then(some (((-1),()),((x1,x3,x2,()),()))) else((bz (⟨#[45]⟩:ByteArray) x1 x2 x3).bind fun z1=>(if z1.1.1=true then((j8 (IntKind.i64.wrap (x0+1)) z1.2.1.1 z1.2.1.2.2.1 z1.2.1.2.1).bind fun z2=>((aR (4,0,(0,0,(⟨#[]⟩:ByteArray),()),((0,0,()),false,false,()),((0,0,()),false,false,()),([z2.1.1]:(List Int)),()) z2.2.1.1 z2.2.1.2.2.1 z2.2.1.2.1).bind fun z3=>(some ((z3.1.1,()),(z3.2.1,()))))) else((oV x0 z1.2.1.1 z1.2.1.2.2.1 z1.2.1.2.1).bind fun z4=>(some ((z4.1.1,()),(z4.2.1,()))))))):=aq (by kernel_rfl)
theorem Gv {x0 x1 x2 x3}:aR x0 x1 x2 x3=if x2=true then(some (((IntKind.i64.wrap ((List.length x3:Int) - 1)),()),((x1,x3,true,()),()))) else(if(!(decide ((List.length x3:Int)≥60)))=true then(app x3 ([x0]:(List aa)) 120 fun y1=>(some (((IntKind.i64.wrap ((List.length y1:Int) - 1)),()),((x1,y1,(decide ((List.length x3:Int)≥60)),()),())))) else(some (((IntKind.i64.wrap ((List.length x3:Int) - 1)),()),((x1,x3,(decide ((List.length x3:Int)≥60)),()),())))):=aq (by kernel_rfl)
theorem Gw {x0 x1}:strings_Cut x0 x1=(BP) [.val .str x0,.val .str x1] []:=aq (by kernel_rfl)
theorem zT {x0 x1 x2 x3}:bJ x0 x1 x2 x3=(aR (1,0,x0,((0,0,()),false,false,()),((0,0,()),false,false,()),([]:(List Int)),()) x1 x2 x3).bind fun z1=>(some ((z1.1.1,()),(z1.2.1,()))):=aq (by kernel_rfl)
theorem Cj {x0 x1 x2}:jr x0 x1 x2=iw x0 1 fun y1=>(jh (⟨#[]⟩:ByteArray) y1 x0 x1 x2):=aq (by kernel_rfl)
theorem IL {x0}:oU x0=inb ([(⟨#[]⟩:ByteArray),(⟨#[35,68,73,86,33]⟩:ByteArray),(⟨#[35,84,89,80,69,33]⟩:ByteArray),(⟨#[35,82,69,70,33]⟩:ByteArray),(⟨#[35,79,86,69,82,33]⟩:ByteArray),(⟨#[35,67,89,67,76,69,33]⟩:ByteArray)]:(List ByteArray)) x0 (some (((List.getD ([(⟨#[]⟩:ByteArray),(⟨#[35,68,73,86,33]⟩:ByteArray),(⟨#[35,84,89,80,69,33]⟩:ByteArray),(⟨#[35,82,69,70,33]⟩:ByteArray),(⟨#[35,79,86,69,82,33]⟩:ByteArray),(⟨#[35,67,89,67,76,69,33]⟩:ByteArray)]:(List ByteArray)) (Int.toNat x0) (⟨#[]⟩:ByteArray)),()),(()))):=aq (by kernel_rfl)
theorem Ro {x0}:fH x0=some (((4,x0,(⟨#[]⟩:ByteArray),()),()),(())):=aq (by kernel_rfl)
theorem E8 {x0 x1 x2}:js x0 x1 x2=(gE x0 x1 x2).bind fun z1=>((gT z1.2.1.1 (⟨#[65,66,67,68,69,70,71,72,73,74,75,76,77,78,79,80,81,82,83,84,85,86,87,88,89,90,48,49,50,51,52,53,54,55,56,57,36]⟩:ByteArray)).bind fun z2=>(Cs z1.2.1.1 (IntKind.i64.wrap ((ByteArray.size z1.2.1.1:Int) - (ByteArray.size z2.1.1:Int))) fun y1=>(iw z1.2.1.1 (IntKind.i64.wrap ((ByteArray.size z1.2.1.1:Int) - (ByteArray.size z2.1.1:Int))) fun y2=>(some ((y1,()),((y2,z1.2.1.2.1,z1.2.1.2.2.1,()),())))))):=aq (by kernel_rfl)
theorem MB {x0}:cI x0=if(x0.1 == 2)=true then(if(x0.2.1 == 0)=true then((w8 x0.2.2.1 200).bind fun z1=>(some ((z1.1.1,()),(())))) else(some ((false,()),(())))) else(if(!(ByteArray.toList x0.2.2.1 == ByteArray.toList (⟨#[]⟩:ByteArray)))=true then(some ((false,()),(()))) else(if(x0.1 == 0)=true then(some (((x0.2.1 == 0),()),(()))) else(if(x0.1 == 1)=true then((eH x0.2.1 (-1000000000000000) 1000000000000000).bind fun z2=>(some ((z2.1.1,()),(())))) else(if(x0.1 == 3)=true then((eH x0.2.1 0 1).bind fun z3=>(some ((z3.1.1,()),(())))) else(if(x0.1 == 4)=true then((eH x0.2.1 1 5).bind fun z4=>(some ((z4.1.1,()),(())))) else(some ((false,()),(())))))))):=aq (by kernel_rfl)
theorem yK {x0 x1}:r9 x0 x1=(BO) [.val (.int .i64) x0,.val (.int .i64) x1] []:=aq (by kernel_rfl)
theorem MC {x0}:jR x0=(r9 x0 10).bind fun z1=>(some ((z1.1.1,()),(()))):=aq (by kernel_rfl)
theorem IM {x0}:eT x0=if(x0.1 == 1)=true then((jR x0.2.1).bind fun z1=>(some ((z1.1.1,()),(())))) else(if(x0.1 == 2)=true then(cats (⟨#[39]⟩:ByteArray) x0.2.2.1 fun y1=>(some ((y1,()),(())))) else(if(x0.1 == 3)=true then(inb ([(⟨#[70,65,76,83,69]⟩:ByteArray),(⟨#[84,82,85,69]⟩:ByteArray)]:(List ByteArray)) x0.2.1 (some (((List.getD ([(⟨#[70,65,76,83,69]⟩:ByteArray),(⟨#[84,82,85,69]⟩:ByteArray)]:(List ByteArray)) (Int.toNat x0.2.1) (⟨#[]⟩:ByteArray)),()),(())))) else(if(x0.1 == 4)=true then((oU x0.2.1).bind fun z2=>(some ((z2.1.1,()),(())))) else(some (((⟨#[]⟩:ByteArray),()),(())))))):=aq (by kernel_rfl)
theorem Rp {x0}:lq x0=if x0=true then(some (((3,1,(⟨#[]⟩:ByteArray),()),()),(()))) else(some (((3,0,(⟨#[]⟩:ByteArray),()),()),(()))):=aq (by kernel_rfl)
theorem zU {x0 x1 x2}:gU x0 x1 x2=(oE) [.val .str x0,.val (.int .i64) x1,.val (.int .i64) x2] []:=aq (by kernel_rfl)
theorem Pa {x0}:ik x0=some (((1,x0,(⟨#[]⟩:ByteArray),()),()),(())):=aq (by kernel_rfl)
theorem IP {x0}:ej x0=(cc x0 (⟨#[39]⟩:ByteArray)).bind fun z1=>(if z1.1.2.1=true then((cI (2,0,z1.1.1,())).bind fun z2=>(if(!z2.1.1)=true then(some (((0,0,(⟨#[]⟩:ByteArray),()),false,()),(()))) else((eT (2,0,z1.1.1,())).bind fun z3=>(if(!(ByteArray.toList z3.1.1 == ByteArray.toList x0))=true then(some (((0,0,(⟨#[]⟩:ByteArray),()),false,()),(()))) else(some (((2,0,z1.1.1,()),true,()),(()))))))) else(if(ByteArray.toList x0 == ByteArray.toList (⟨#[70,65,76,83,69]⟩:ByteArray))=true then((lq (ByteArray.toList x0 == ByteArray.toList (⟨#[84,82,85,69]⟩:ByteArray))).bind fun z4=>((cI z4.1.1).bind fun z5=>(if(!z5.1.1)=true then(some (((0,0,(⟨#[]⟩:ByteArray),()),false,()),(()))) else((eT z4.1.1).bind fun z6=>(if(!(ByteArray.toList z6.1.1 == ByteArray.toList x0))=true then(some (((0,0,(⟨#[]⟩:ByteArray),()),false,()),(()))) else(some ((z4.1.1,true,()),(())))))))) else(if(ByteArray.toList x0 == ByteArray.toList (⟨#[84,82,85,69]⟩:ByteArray))=true then((lq (ByteArray.toList x0 == ByteArray.toList (⟨#[84,82,85,69]⟩:ByteArray))).bind fun z7=>((cI z7.1.1).bind fun z8=>(if(!z8.1.1)=true then(some (((0,0,(⟨#[]⟩:ByteArray),()),false,()),(()))) else((eT z7.1.1).bind fun z9=>(if(!(ByteArray.toList z9.1.1 == ByteArray.toList x0))=true then(some (((0,0,(⟨#[]⟩:ByteArray),()),false,()),(()))) else(some ((z7.1.1,true,()),(())))))))) else((dR x0 (⟨#[35]⟩:ByteArray)).bind fun z10=>(if z10.1.1=true then(f5 x0 1 0 0 (⟨#[]⟩:ByteArray) 0 0 (⟨#[]⟩:ByteArray)) else(if(!(ByteArray.toList x0 == ByteArray.toList (⟨#[]⟩:ByteArray)))=true then((gU x0 10 64).bind fun z11=>((ik z11.1.1).bind fun z12=>((cI z12.1.1).bind fun z13=>(if(!z13.1.1)=true then(some (((0,0,(⟨#[]⟩:ByteArray),()),false,()),(()))) else((eT z12.1.1).bind fun z14=>(if(!(ByteArray.toList z14.1.1 == ByteArray.toList x0))=true then(some (((0,0,(⟨#[]⟩:ByteArray),()),false,()),(()))) else(some ((z12.1.1,true,()),(()))))))))) else((cI (0,0,(⟨#[]⟩:ByteArray),())).bind fun z15=>(if(!z15.1.1)=true then(some (((0,0,(⟨#[]⟩:ByteArray),()),false,()),(()))) else((eT (0,0,(⟨#[]⟩:ByteArray),())).bind fun z16=>(if(!(ByteArray.toList z16.1.1 == ByteArray.toList x0))=true then(some (((0,0,(⟨#[]⟩:ByteArray),()),false,()),(()))) else(some (((0,0,(⟨#[]⟩:ByteArray),()),true,()),(()))))))))))))):=aq (by kernel_rfl)
theorem MD {x0}:qd x0=(eH x0 1 52).bind fun z1=>(if(!z1.1.1)=true then(some (((⟨#[]⟩:ByteArray),()),(()))) else(if(decide (x0≤26))=true then(some (((strOfNums ([(IntKind.u8.wrap (IntKind.i64.wrap ((IntKind.i64.wrap (65+x0)) - 1)))]:(List Int))),()),(()))) else(some (((strOfNums ([(IntKind.u8.wrap (IntKind.i64.wrap ((IntKind.i64.wrap (65+(IntKind.i64.wrap (Int.tdiv (IntKind.i64.wrap (x0 - 1)) 26)))) - 1))),(IntKind.u8.wrap (IntKind.i64.wrap (65+(Int.tmod (IntKind.i64.wrap (x0 - 1)) 26))))]:(List Int))),()),(()))))):=aq (by kernel_rfl)
theorem ME {x0}:Dr x0=vW x0 1:=aq (by kernel_rfl)
theorem IQ {x0}:mc x0=(rh x0.1).bind fun z1=>(if(!z1.1.1)=true then(some (((⟨#[]⟩:ByteArray),()),(()))) else(if x0.2.1=true then((qd x0.1.1).bind fun z2=>(cats (⟨#[36]⟩:ByteArray) z2.1.1 fun y1=>(if x0.2.2.1=true then(cats y1 (⟨#[36]⟩:ByteArray) fun y2=>((jR x0.1.2.1).bind fun z3=>(cats y2 z3.1.1 fun y3=>(some ((y3,()),(())))))) else((jR x0.1.2.1).bind fun z4=>(cats y1 z4.1.1 fun y4=>(some ((y4,()),(())))))))) else((qd x0.1.1).bind fun z5=>(cats (⟨#[]⟩:ByteArray) z5.1.1 fun y5=>(if x0.2.2.1=true then(cats y5 (⟨#[36]⟩:ByteArray) fun y6=>((jR x0.1.2.1).bind fun z6=>(cats y6 z6.1.1 fun y7=>(some ((y7,()),(())))))) else((jR x0.1.2.1).bind fun z7=>(cats y5 z7.1.1 fun y8=>(some ((y8,()),(())))))))))):=aq (by kernel_rfl)
theorem IR {x0}:gm x0=(cc x0 (⟨#[36]⟩:ByteArray)).bind fun z1=>((gT z1.1.1 (⟨#[65,66,67,68,69,70,71,72,73,74,75,76,77,78,79,80,81,82,83,84,85,86,87,88,89,90]⟩:ByteArray)).bind fun z2=>(Cs z1.1.1 (IntKind.i64.wrap ((ByteArray.size z1.1.1:Int) - (ByteArray.size z2.1.1:Int))) fun y1=>((Dr y1).bind fun z3=>(iw z1.1.1 (IntKind.i64.wrap ((ByteArray.size z1.1.1:Int) - (ByteArray.size z2.1.1:Int))) fun y2=>((cc y2 (⟨#[36]⟩:ByteArray)).bind fun z4=>((gU z4.1.1 10 64).bind fun z5=>((rh (z3.1.1,z5.1.1,())).bind fun z6=>(if(!z6.1.1)=true then(some ((((0,0,()),false,false,()),false,()),(()))) else((mc ((z3.1.1,z5.1.1,()),z1.1.2.1,z4.1.2.1,())).bind fun z7=>(if(!(ByteArray.toList z7.1.1 == ByteArray.toList x0))=true then(some ((((0,0,()),false,false,()),false,()),(()))) else(some ((((z3.1.1,z5.1.1,()),z1.1.2.1,z4.1.2.1,()),true,()),(()))))))))))))):=aq (by kernel_rfl)
theorem Pb {x0}:BW x0=inb ([(⟨#[]⟩:ByteArray),(⟨#[83,85,77]⟩:ByteArray),(⟨#[77,73,78]⟩:ByteArray),(⟨#[77,65,88]⟩:ByteArray),(⟨#[67,79,85,78,84]⟩:ByteArray),(⟨#[73,70]⟩:ByteArray),(⟨#[65,78,68]⟩:ByteArray),(⟨#[79,82]⟩:ByteArray),(⟨#[78,79,84]⟩:ByteArray),(⟨#[65,66,83]⟩:ByteArray),(⟨#[76,69,78]⟩:ByteArray)]:(List ByteArray)) x0 (some (((List.getD ([(⟨#[]⟩:ByteArray),(⟨#[83,85,77]⟩:ByteArray),(⟨#[77,73,78]⟩:ByteArray),(⟨#[77,65,88]⟩:ByteArray),(⟨#[67,79,85,78,84]⟩:ByteArray),(⟨#[73,70]⟩:ByteArray),(⟨#[65,78,68]⟩:ByteArray),(⟨#[79,82]⟩:ByteArray),(⟨#[78,79,84]⟩:ByteArray),(⟨#[65,66,83]⟩:ByteArray),(⟨#[76,69,78]⟩:ByteArray)]:(List ByteArray)) (Int.toNat x0) (⟨#[]⟩:ByteArray)),()),(()))):=aq (by kernel_rfl)
end Go.Proofs.YtnodjiikdgmeaaaGreatDoor.Abs
