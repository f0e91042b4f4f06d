/- A row's frame that keeps the world's shape beside what is laid; the cell of a variable of the library's that is a number. -/
import Derived.Handed
import Derived.HandedShaped
import Derived.LaidLaws
import Derived.Stop.LaidErr
import Derived.Shelf.LaysM
import Derived.Test.YteaahciglahehaaGreatDoorZM1
import Derived.SevenTiedAt
import Derived.Test.YteaahciglahehaaGreatDoorZA3
import Derived.Test.YteaahciglahehaaGreatDoorZQAD
set_option linter.unusedVariables false
namespace Go.Proofs.YteaahciglahehaaGreatDoor.Abs
open Go Go.RowKit Go.ChangeShapes
theorem E1 {W:World} (h:W.ShapedOpen Tryz.prog) : ∃ m,W.cell? ⟨5,0,none⟩=some (.int .i64 m):=Tryz.layCut.s1_3 W h
theorem kZ {H:Type} {enc:TypeId×Value→H} {a:Assume} {C:Checked} {os:Os} {f:FuncId} {fn:Func} {s:ChangeSpec} {conds:List PathCond} {apart fresh handsOn again:Bool} {X:World→Array Value→Prop}
  (hX : ∀(w w':World) (args:Array Value),w.heap=w'.heap→X w args→X w' args)
  (own:ownKnob C.prog.godebug=none) (started:os.Started) (noInit:C.prog.inits.idxOf? f=none) (hfn:C.prog.funcs[f]? = some fn)
  (witness : ∃(w:World) (tape:Tape) (i:Input),w.os=os∧(w.forCall tape i).Shaped C.prog∧i.vars=[]∧Input.okWide C.prog (w.forCall tape i) .any w.heap.size f i ∧
   ((s.pre enc C.prog fn conds apart (w.forCall tape i).memory i.args∧X (w.forCall tape i).memory i.args)∧sizedMet enc C.prog fn (OpenSpec.ofChange s) apart (w.forCall tape i).memory i.args)∧a.holds C.prog (lone (Frame.enter C.prog f i.args .normal) [] (w.forCall tape i)))
  (contract : ∀(W:World) (base:Nat) (args:Array Value) (ds gs:List (DataW H)) (before:List MemPlace),
   (∀(j:Nat) t v,fn.params[j]? = some t→args[j]? = some v→Value.okWide C.prog W .any base t v) →
   DataW.Whole enc C.prog fn.params.toList s.vars apart W args.toList ds gs before →
   conds.all (PathCond.test C.prog ⟨fn.params.toList,ds,s.plain.varTypes C.prog,gs⟩)=true →
   (DataW.weightsEach C.prog (fn.params.toList++s.plain.varTypes C.prog) (ds++gs)).all (· ≤ reachBytes)=true→X W args→W.ShapedOpen C.prog →
   a.holds C.prog (lone (Frame.enter C.prog f args .normal) [] W) →
   Calls C.prog f args W fun e W' => ∃ v,e = .returned v∧s.post enc C.prog fn apart fresh handsOn again W args v W') :
  ReturnsInHanded a C os f .any (fun w args=>(s.pre enc C.prog fn conds apart w args∧X w args)∧sizedMet enc C.prog fn (OpenSpec.ofChange s) apart w args) (s.post enc C.prog fn apart fresh handsOn again):=by
 refine returnsInHanded_of_calls own started noInit witness ?_
 intro w tape i _ hsh _ hok hpre hholds
 obtain⟨_,_,_,fn',hfn',_,_,_,_,hval⟩:=hok
 have e:fn'=fn:=Option.some.inj (hfn'.symm.trans hfn)
 subst e
 obtain⟨⟨⟨ds,gs,before,hw,hc⟩,hx⟩,hz⟩:=hpre
 have hw':=DataW.Whole.of_heap (w':=w.forCall tape i) (by rfl) hw
 refine(contract (w.forCall tape i) w.heap.size i.args ds gs before hval hw' hc (hz.weights hw) (hX _ _ _ (by rfl) hx) hsh hholds).mono fun e W' ⟨v,he,hp⟩ => ?_
 subst he
 exact ChangeSpec.post_blind hp
end Go.Proofs.YteaahciglahehaaGreatDoor.Abs
namespace Go.Proofs.YteaahciglahehaaGreatDoor.Abs
open Go
theorem KG {P:Program} (h:P.funcs.any Func.goes=false) (c:OpenClaim):false=c.goesBy P:=by
 have h1 : ∀ g:FuncId,(P.funcs[g]?).any Func.goes=false:=by
  intro g
  cases hg:P.funcs[g]? with
  | none=>rfl
  | some fn =>
   rw[Option.any_some,Bool.eq_false_iff]
   intro hh
   have h2:P.funcs.any Func.goes=true:=by
    rw[Array.any_eq_true]
    obtain⟨hl,e⟩:=Array.getElem?_eq_some_iff.1 hg
    exact⟨g,hl,by rw[e]; exact hh⟩
   rw[h] at h2
   cases h2
 have h2 : ∀ f:FuncId,P.goes f=false:=by
  intro f
  unfold Program.goes
  rw[h,Bool.and_false,Bool.or_false,Bool.eq_false_iff]
  intro hh
  obtain⟨g,_,hg⟩:=List.any_eq_true.1 hh
  rw[h1 g] at hg
  cases hg
 have h3 : ∀ s:String,P.goesFrom s=false:=by
  intro s
  unfold Program.goesFrom
  cases P.funcNamed s with
  | none=>rfl
  | some f=>exact h2 f
 have h4:P.inits.toList.any P.goes=false:=by
  rw[Bool.eq_false_iff]
  intro hh
  obtain⟨g,_,hg⟩:=List.any_eq_true.1 hh
  rw[h2 g] at hg
  cases hg
 unfold OpenClaim.goesBy Program.goesAt
 rw[h3,Bool.false_or,h4]
 cases c.start <;> rfl
end Go.Proofs.YteaahciglahehaaGreatDoor.Abs
set_option linter.unusedSimpArgs false
set_option linter.unusedSectionVars false
namespace Go.Proofs.YteaahciglahehaaGreatDoor.Abs
open Go
section
variable {α β:Type}
theorem br {xs pre ys:List α} {y d:α} {f:α→Option β} (h:xs=pre++y :: ys):ix xs (pre.length:Int) d f=f y:=by
 subst h
 have h1:((pre.length:Nat):Int) < ((pre++y :: ys).length:Int):=nS
 unfold ix
 rw[if_pos (nn _),if_pos h1,gC]
theorem bV {xs:List α} {i:Int} {y d:α} {f:α→Option β} (h0:0≤i) (h:xs[i.toNat]? = some y):ix xs i d f=f y:=by
 have h2:=(List.getElem?_eq_some_iff.1 h)
 obtain⟨h3,h4⟩:=h2
 have h1:i < (xs.length:Int):=by omega
 unfold ix
 rw[if_pos h0,if_pos h1]
 congr 1
 simp[List.getD_eq_getElem?_getD,h]
theorem bC {xs:List α} {i:Int} {k:Option β} (h0:0≤i) (h1:i < (xs.length:Int)):inb xs i k=k:=by
 unfold inb
 rw[if_pos h0,if_pos h1]
theorem gZ {xs pre ys:List α} {y:α} {k:Option β} (h:xs=pre++y :: ys):inb xs (pre.length:Int) k=k:=by
 subst h
 exact bC (nn _) nS
theorem Zy {s:ByteArray} {i:Int} {f:Int→Option β} (h0:0≤i) (h1:i < (s.size:Int)):ez s i f=f (bt s i):=by
 unfold ez
 rw[if_pos h0,if_pos h1]
theorem zN {n b:Nat} {d:α} {f:List α→Option β} (h:n*b≤140737488355328):EJ (n:Int) b d f=f (List.replicate n d):=by
 unfold EJ
 rw[if_pos (nn _)]
 simp only[Int.toNat_natCast]
 rw[if_pos h]
theorem fy {a b:ByteArray} {f:ByteArray→Option β} (h:a.size+b.size≤9223372036854775807):cats a b f=f (a++b):=if_pos h
theorem bd {a b:List α} {n:Nat} {f:List α→Option β} (h:(a.length+b.length)*n≤140737488355328):app a b n f=f (a++b):=if_pos h
theorem Zz {s:ByteArray} {h:Int} {f:ByteArray→Option β} (h0:0≤h) (h1:h≤(s.size:Int)):EK s h f=f (s.extract 0 h.toNat):=by
 unfold EK
 rw[if_pos h0,if_pos h1]
theorem ZA {s:ByteArray} {l:Int} {f:ByteArray→Option β} (h0:0≤l) (h1:l≤(s.size:Int)):jn s l f=f (s.extract l.toNat s.size):=by
 unfold jn
 rw[if_pos h0,if_pos h1]
theorem ZB {s:ByteArray} {l h:Int} {f:ByteArray→Option β} (h0:0≤l) (h1:l≤h) (h2:h≤(s.size:Int)):wW s l h f=f (s.extract l.toNat h.toNat):=by
 unfold wW
 rw[if_pos (by omega),if_pos h2,if_pos h0,if_pos h1]
theorem Na {xs:List α} {h:Int} {f:List α→Option β} (h0:0≤h) (h1:h≤(xs.length:Int)):QM xs h f=f (xs.take h.toNat):=by
 unfold QM
 rw[if_pos h0,if_pos h1]
theorem Hj {xs:List α} {l:Int} {f:List α→Option β} (h0:0≤l) (h1:l≤(xs.length:Int)):QN xs l f=f (xs.drop l.toNat):=by
 unfold QN
 rw[if_pos h0,if_pos h1]
theorem Hk {b:Int} {k:Option β} (h:b≠0):nz b k=k:=if_neg h
theorem bu {xs pre ys:List α} {y:α} (h:xs=pre++y :: ys):((pre.length:Nat):Int) < (xs.length:Int):=by rw[h]; exact nS
theorem bj {xs pre:List α} (h:xs=pre++[]) : ¬((pre.length:Nat):Int) < (xs.length:Int):=by rw[h,List.append_nil]; exact Int.lt_irrefl _
theorem aJ {xs pre ys:List α} {y:α} (h:xs=pre++y :: ys) (hl:xs.length≤9223372036854775807):IntKind.i64.wrap ((pre.length:Int)+1)=((pre++[y]).length:Int):=by
 have:=bu h
 rw[wr (by omega) (by omega),WM]
theorem az {xs pre ys:List α} {y:α} (h:xs=pre++y :: ys):xs=(pre++[y])++ys:=by rw[h]; simp
end
def nv (s:ByteArray):List Int:=s.data.toList.map fun b=>(b.toNat:Int)
theorem zO (s:ByteArray):(nv s).length=s.size:=by
 unfold nv
 rw[List.length_map,Array.length_toList]
 rfl
theorem ZC {s:ByteArray} {pre ys:List Int} {y:Int} (h:nv s=pre++y :: ys):bt s (pre.length:Int)=y:=by
 have hl:pre.length < s.size:=by rw[←zO,h]; simp
 unfold bt
 simp only[Int.toNat_natCast,hl,dite_true]
 have h1:(nv s)[pre.length]? = some y:=by rw[h]; simp
 unfold nv at h1
 rw[List.getElem?_map,Option.map_eq_some_iff] at h1
 obtain⟨b,hb,rfl⟩:=h1
 rw[List.getElem?_eq_some_iff] at hb
 obtain⟨_,hb⟩:=hb
 rw[←hb]
 simp[ByteArray.getElem_eq_getElem_data]
@[simp] theorem Hl (a b:ByteArray):nv (a++b)=nv a++nv b:=by simp[nv]
@[simp] theorem size_append (a b:ByteArray):(a++b).size=a.size+b.size:=ByteArray.size_append
theorem C5 {β:Type} {s:ByteArray} {pre ys:List Int} {y:Int} {f:Int→Option β} (h:nv s=pre++y :: ys):ez s (pre.length:Int) f=f y:=by
 have hl:((pre.length:Nat):Int) < (s.size:Int):=by rw[←zO]; exact bu h
 rw[Zy (nn _) hl,ZC h]
theorem UW {s:ByteArray} {pre ys:List Int} {y:Int} (h:nv s=pre++y :: ys):((pre.length:Nat):Int) < (s.size:Int):=by rw[←zO]; exact bu h
theorem Q9 {s:ByteArray} {pre:List Int} (h:nv s=pre++[]) : ¬((pre.length:Nat):Int) < (s.size:Int):=by rw[←zO]; exact bj h
theorem Nb {s:ByteArray} {pre ys:List Int} {y:Int} (h:nv s=pre++y :: ys) (hl:s.size≤9223372036854775807):IntKind.i64.wrap ((pre.length:Int)+1)=((pre++[y]).length:Int):=aJ h (by rw[zO]; exact hl)
@[simp] theorem aaF {x y:ByteArray}:(x == y)=true↔x=y:=by
 cases x; cases y
 constructor
 ·intro h
  congr 1
  exact eq_of_beq h
 ·intro h
  cases h
  exact beq_self_eq_true (α:=Array UInt8) _
theorem nh : ∀ {t:Ty} {x y:t.den},cT t=true→(bp t x y=true↔x=y)
 | .int _,x,y,_=>by simp[bp]
 | .bool,x,y,_=>by simp[bp]
 | .str,x,y,_=>by
  exact aaF
 | .unit,_,_,_=>by simp[bp]
 | .pair a b,x,y,h=>by
  simp only[cT,Bool.and_eq_true] at h
  simp only[bp,Bool.and_eq_true,nh h.1,nh h.2]
  exact⟨fun⟨h1,h2⟩=>Prod.ext h1 h2,fun h=>by rw[h]; exact⟨rfl,rfl⟩⟩
 | .agg t,x,y,h=>by
  simp only[cT] at h
  simp only[bp,nh h]
 | .slice _ _,_,_,h=>by cases h
def cO (left:Int) (n:Nat):Int:=if(n:Int)≤left then left - n else -1
theorem zP {left:Int} {a b:Nat} (h : ¬cO left a < 0):cO (cO left a) b=cO left (a+b):=by
 unfold cO at h ⊢
 by_cases h1:(a:Int)≤left
 ·rw[if_pos h1] at h ⊢
  by_cases h2:(b:Int)≤left - a
  ·rw[if_pos h2,if_pos (by omega)]
   omega
  ·rw[if_neg h2,if_neg (by omega)]
 ·rw[if_neg h1] at h
  omega
theorem vW {left:Int} {a b:Nat} (h:cO left a < 0):cO left (a+b) = -1:=by
 unfold cO at h ⊢
 split at h
 ·omega
 ·rw[if_neg (by omega)]
theorem C6 {left:Int} {n:Nat} (h:0≤left):cO left n≤left:=by
 unfold cO
 split <;> omega
theorem Hm {left:Int} {n:Nat} : ¬cO left n < 0→(n:Int)≤left∧cO left n=left - n:=by
 unfold cO
 split
 ·intro _
  constructor <;> first | assumption | rfl
 ·intro h
  omega
theorem Ei {left:Int} {n:Nat} (h0:0≤left) (h1:left≤9223372036854775807) (hn:n≤9223372036854775807):(IntKind.i64.wrap (left - (n:Int)) < 0↔cO left n < 0)∧(¬cO left n < 0→IntKind.i64.wrap (left - (n:Int))=cO left n):=by
 rw[wr (by omega) (by omega)]
 unfold cO
 split <;> constructor <;> first | omega | (intro _; rfl)
theorem WS {left:Int} (h:0≤left):cO left 0=left:=by
 unfold cO
 rw[if_pos (by omega)]
 omega
def oj {α:Type} (f:α→Nat):List α→Nat
 | []=>0
 | x :: l=>f x+oj f l
theorem Ra {α:Type} {f:α→Nat} {l:List α} {x:α} (h:x∈l):f x≤oj f l:=by
 induction l with
 | nil=>cases h
 | cons y l ih =>
  simp only[oj]
  rcases List.mem_cons.1 h with rfl | h
  ·omega
  ·have:=ih h
   omega
theorem aB {α:Type} {p:Prop} [Decidable p] {a b:α} (h:p):(if decide p=true then a else b)=a:=if_pos (decide_eq_true h)
theorem aA {α:Type} {p:Prop} [Decidable p] {a b:α} (h : ¬p):(if decide p=true then a else b)=b:=if_neg (by simpa using h)
theorem YB {w left:Int} {n rest:Nat} {K:Int→Option ((Int×Unit)×Unit)} (hw:cO left n=w) (h0:0≤left) (h1:left≤9223372036854775807) (hK : ∀ l,0≤l→l≤9223372036854775807→K l=some ((cO l rest,()),())) :
  (if decide (w < 0)=true then some ((-1,()),()) else K w)=some ((cO left (n+rest),()),()):=by
 subst hw
 by_cases hn:cO left n < 0
 ·rw[aB hn,vW hn]
 ·have:=C6 (n:=n) h0
  rw[aA hn,hK _ (by omega) (by omega),zP hn]
theorem Nc (l:Int) (h0:0≤l) (h1:l≤9223372036854775807):some ((l,()),())=some ((cO l 0,()),()):=by rw[WS h0]
section
variable {α:Type}
theorem Nd {f:α→Nat} {xs:List α} {P:Int→Int→Option ((Int×Unit)×Unit)} {c:α→Int→Option ((Int×Unit)×Unit)} {d:α}
  (hP : ∀ l i,P l i=if decide (i < (xs.length:Int))=true then ix xs i d fun y=>(c y l).bind fun z=>if decide (z.1.1 < 0)=true then some ((-1,()),()) else P z.1.1 (IntKind.i64.wrap (i+1)) else some ((l,()),()))
  (hc : ∀ y∈xs,∀ l,0≤l→l≤9223372036854775807→c y l=some ((cO l (f y),()),())) (hl:(xs.length:Int)≤9223372036854775807) : ∀ l,0≤l→l≤9223372036854775807→P l 0=some ((cO l (oj f xs),()),()):=by
 have go : ∀(ys pre:List α),xs=pre++ys → ∀ l,0≤l→l≤9223372036854775807→P l (pre.length:Int)=some ((cO l (oj f ys),()),()):=by
  intro ys
  induction ys with
  | nil =>
   intro pre he l h0 h1
   rw[hP,aA (bj he)]
   exact Nc l h0 h1
  | cons y ys ih =>
   intro pre he l h0 h1
   rw[hP,aB (bu he),br he,hc y (by rw[he]; simp) l h0 h1,Option.bind_some]
   show(if decide (cO l (f y) < 0)=true then _ else P (cO l (f y)) (IntKind.i64.wrap (↑pre.length+1)))=_
   generalize hw:cO l (f y)=w
   refine YB (K:=fun w=>P w (IntKind.i64.wrap (↑pre.length+1))) hw h0 h1 fun l' h0' h1' => ?_
   show P l' (IntKind.i64.wrap (↑pre.length+1))=_
   rw[aJ he (by omega)]
   exact ih _ (az he) l' h0' h1'
 exact go xs [] rfl
theorem Nf {xs:List α} {P:Int→List α→Option ((List α×Unit)×Unit)} {c:α→Option ((α×Unit)×Unit)} {d:α}
  (hP : ∀ i zs,P i zs=if decide (i < (xs.length:Int))=true then ix xs i d fun y=>(c y).bind fun z=>inb zs i (P (IntKind.i64.wrap (i+1)) (zs.set i.toNat z.1.1)) else some ((zs,()),()))
  (hc : ∀ y∈xs,c y=some ((y,()),())) (hl:(xs.length:Int)≤9223372036854775807) : ∀ zs:List α,zs.length=xs.length→P 0 zs=some ((xs,()),()):=by
 have go : ∀(ys pre zs:List α),xs=pre++ys→zs.length=ys.length→P (pre.length:Int) (pre++zs)=some ((xs,()),()):=by
  intro ys
  induction ys with
  | nil =>
   intro pre zs he hz
   rw[hP,aA (bj he),List.eq_nil_of_length_eq_zero hz,he]
  | cons y ys ih =>
   intro pre zs he hz
   cases zs with
   | nil=>cases hz
   | cons z zs =>
    rw[hP,aB (bu he),br he,hc y (by rw[he]; simp),Option.bind_some,gZ rfl,CJ,aJ he (by omega),show pre++y :: zs=(pre++[y])++zs by simp]
    exact ih _ zs (az he) (by simpa using hz)
 intro zs hz
 exact go xs [] zs rfl hz
theorem Bg {xs:List α} {P:Int→Option ((Bool×Unit)×Unit)} {B:α→α→Option ((Bool×Unit)×Unit)→Option ((Bool×Unit)×Unit)} {d d':α}
  (hP : ∀ i,P i=if decide (i < (xs.length:Int))=true then ix xs i d fun y=>ix xs i d' fun y'=>B y y' (P (IntKind.i64.wrap (i+1))) else some ((true,()),()))
  (hB : ∀ y∈xs,∀ k,B y y k=k) (hl:(xs.length:Int)≤9223372036854775807):P 0=some ((true,()),()):=by
 have go : ∀(ys pre:List α),xs=pre++ys→P (pre.length:Int)=some ((true,()),()):=by
  intro ys
  induction ys with
  | nil =>
   intro pre he
   rw[hP,aA (bj he)]
  | cons y ys ih =>
   intro pre he
   rw[hP,aB (bu he),br he,br he,hB y (by rw[he]; simp),aJ he (by omega)]
   exact ih _ (az he)
 exact go xs [] rfl
end
end Go.Proofs.YteaahciglahehaaGreatDoor.Abs
set_option maxRecDepth 100000
namespace Go.Proofs.YteaahciglahehaaGreatDoor.Abs
open Go Go.Proofs.YteaahciglahehaaGreatDoor
theorem Sr {x0 x1}:D4 x0 x1=if(decide ((IntKind.i64.wrap (x1 - (ByteArray.size x0.2.1:Int))) < 0))=true then(some (((-1),()),(()))) else(some (((IntKind.i64.wrap (x1 - (ByteArray.size x0.2.1:Int))),()),(()))):=ay (by kernel_rfl)
theorem Pz {x0 x1}:A2 x0 x1=if(decide ((IntKind.i64.wrap (x1 - (List.length x0:Int))) < 0))=true then(some (((-1),()),(()))) else(yl x0 (IntKind.i64.wrap (x1 - (List.length x0:Int))) 0):=ay (by kernel_rfl)
theorem Ss {x0 x1}:D5 x0 x1=if(decide ((IntKind.i64.wrap (x1 - (ByteArray.size x0.2.2.1:Int))) < 0))=true then(some (((-1),()),(()))) else(some (((IntKind.i64.wrap (x1 - (ByteArray.size x0.2.2.1:Int))),()),(()))):=ay (by kernel_rfl)
theorem PA {x0 x1}:A3 x0 x1=if(decide ((IntKind.i64.wrap (x1 - (List.length x0:Int))) < 0))=true then(some (((-1),()),(()))) else(ym x0 (IntKind.i64.wrap (x1 - (List.length x0:Int))) 0):=ay (by kernel_rfl)
theorem UX {x0}:Hd x0=some ((x0,()),(())):=ay (by kernel_rfl)
theorem Su {x0}:D6 x0=(Hd x0.1).bind fun z1=>(some (((z1.1.1,x0.2.1,()),()),(()))):=ay (by kernel_rfl)
theorem PB {x0}:jG x0=EJ (List.length x0:Int) 32 (aj.dflt) fun y1=>(yn x0 0 y1):=ay (by kernel_rfl)
theorem Sv {x0}:D7 x0=(Hd x0.2.1).bind fun z1=>(some (((x0.1,z1.1.1,x0.2.2.1,x0.2.2.2.1,()),()),(()))):=ay (by kernel_rfl)
theorem PC {x0}:jH x0=EJ (List.length x0:Int) 48 (aG.dflt) fun y1=>(yo x0 0 y1):=ay (by kernel_rfl)
theorem PD {x0}:vy x0=sK x0 0:=ay (by kernel_rfl)
theorem Hn {x0 x1 x2 x3}:j0 x0 x1 x2 x3=lF x0 x1 x2 x3:=ay (by kernel_rfl)
theorem PE {x0 x1 x2 x3 x4}:dN x0 x1 x2 x3 x4=(j0 x1 x2 x3 x4).bind fun z1=>(if z1.2.1.2.2.1=true then(some ((false,()),(z1.2.1,()))) else(if(decide ((IntKind.i64.wrap (z1.2.1.2.1+(ByteArray.size x0:Int))) > (ByteArray.size z1.2.1.1:Int)))=true then(some ((false,()),(z1.2.1,()))) else(wW z1.2.1.1 z1.2.1.2.1 (IntKind.i64.wrap (z1.2.1.2.1+(ByteArray.size x0:Int))) fun y1=>(if(!(ByteArray.toList y1 == ByteArray.toList x0))=true then(some ((false,()),(z1.2.1,()))) else(some ((true,()),((z1.2.1.1,(IntKind.i64.wrap (z1.2.1.2.1+(ByteArray.size x0:Int))),z1.2.1.2.2.1,z1.2.1.2.2.2.1,()),()))))))):=ay (by kernel_rfl)
theorem C7 {x0 x1 x2 x3 x4}:eR x0 x1 x2 x3 x4=if x3=true then(some ((0,()),((x1,x2,x3,x4,()),()))) else(if(x0 == 5)=true then((xg x1 x2 x3 x4).bind fun z1=>(some ((z1.1.1,()),(z1.2.1,())))) else((eR (IntKind.i64.wrap (x0+1)) x1 x2 x3 x4).bind fun z2=>(dp x0 z2.1.1 z2.2.1.1 z2.2.1.2.1 z2.2.1.2.2.1 z2.2.1.2.2.2.1))):=ay (by kernel_rfl)
theorem WT {x0 x1 x2}:g8 x0 x1 x2=if(decide (x0≥x1))=true then(some (((decide (x0≤x2)),()),(()))) else(some ((false,()),(()))):=ay (by kernel_rfl)
theorem PF {x0}:ed x0=if(x0.1 == 0)=true then(if(x0.2.1 == 0)=true then(some (((ByteArray.toList x0.2.2.1 == ByteArray.toList (⟨#[]⟩:ByteArray)),()),(()))) else(some ((false,()),(())))) else(if(x0.1 == 1)=true then((g8 x0.2.1 (-1000000000000000) 1000000000000000).bind fun z1=>(if z1.1.1=true then(some (((ByteArray.toList x0.2.2.1 == ByteArray.toList (⟨#[]⟩:ByteArray)),()),(()))) else(some ((false,()),(()))))) else(if(x0.1 == 2)=true then(if(x0.2.1 == 0)=true then((vy x0.2.2.1).bind fun z2=>(some ((z2.1.1,()),(())))) else(some ((false,()),(())))) else(if(x0.1 == 3)=true then((g8 x0.2.1 0 1).bind fun z3=>(if z3.1.1=true then(some (((ByteArray.toList x0.2.2.1 == ByteArray.toList (⟨#[]⟩:ByteArray)),()),(()))) else(some ((false,()),(()))))) else(if(x0.1 == 4)=true then((g8 x0.2.1 1 5).bind fun z4=>(if z4.1.1=true then(some (((ByteArray.toList x0.2.2.1 == ByteArray.toList (⟨#[]⟩:ByteArray)),()),(()))) else(some ((false,()),(()))))) else(some ((false,()),(()))))))):=ay (by kernel_rfl)
theorem UY {x0}:dn x0=(g8 x0.1 1 52).bind fun z1=>(if z1.1.1=true then((g8 x0.2.1 1 99).bind fun z2=>(some ((z2.1.1,()),(())))) else(some ((false,()),(())))):=ay (by kernel_rfl)
theorem Sw {x0}:IB x0=(dn x0.1).bind fun z1=>(if z1.1.1=true then((dn x0.2.1).bind fun z2=>(if z2.1.1=true then(if(decide (x0.1.1≤x0.2.1.1))=true then(some (((decide (x0.1.2.1≤x0.2.1.2.1)),()),(()))) else(some ((false,()),(())))) else(some ((false,()),(()))))) else(some ((false,()),(())))):=ay (by kernel_rfl)
theorem Sx {x0 x1}:IC x0 x1=if(x0 == 1)=true then(if(x0 == 1)=true then(if(decide (x1≥1))=true then(some (((decide (x1≤10)),()),(()))) else(some ((false,()),(())))) else(if(x0 == 5)=true then(if(x1 == 2)=true then(some ((true,()),(()))) else(some (((x1 == 3),()),(())))) else(if(x0 == 8)=true then(if(x0 == 8)=true then(some (((x1 == 1),()),(()))) else(some ((false,()),(())))) else(if(x0 == 9)=true then(if(x0 == 9)=true then(some (((x1 == 1),()),(()))) else(some ((false,()),(())))) else(if(x0 == 10)=true then(some (((x1 == 1),()),(()))) else(some ((false,()),(())))))))) else(if(x0 == 2)=true then(if(x0 == 2)=true then(if(decide (x1≥1))=true then(some (((decide (x1≤10)),()),(()))) else(some ((false,()),(())))) else(if(x0 == 5)=true then(if(x1 == 2)=true then(some ((true,()),(()))) else(some (((x1 == 3),()),(())))) else(if(x0 == 8)=true then(if(x0 == 8)=true then(some (((x1 == 1),()),(()))) else(some ((false,()),(())))) else(if(x0 == 9)=true then(if(x0 == 9)=true then(some (((x1 == 1),()),(()))) else(some ((false,()),(())))) else(if(x0 == 10)=true then(some (((x1 == 1),()),(()))) else(some ((false,()),(())))))))) else(if(x0 == 3)=true then(if(x0 == 3)=true then(if(decide (x1≥1))=true then(some (((decide (x1≤10)),()),(()))) else(some ((false,()),(())))) else(if(x0 == 5)=true then(if(x1 == 2)=true then(some ((true,()),(()))) else(some (((x1 == 3),()),(())))) else(if(x0 == 8)=true then(if(x0 == 8)=true then(some (((x1 == 1),()),(()))) else(some ((false,()),(())))) else(if(x0 == 9)=true then(if(x0 == 9)=true then(some (((x1 == 1),()),(()))) else(some ((false,()),(())))) else(if(x0 == 10)=true then(some (((x1 == 1),()),(()))) else(some ((false,()),(())))))))) else(if(x0 == 4)=true then(if(x0 == 4)=true then(if(decide (x1≥1))=true then(some (((decide (x1≤10)),()),(()))) else(some ((false,()),(())))) else(if(x0 == 5)=true then(if(x1 == 2)=true then(some ((true,()),(()))) else(some (((x1 == 3),()),(())))) else(if(x0 == 8)=true then(if(x0 == 8)=true then(some (((x1 == 1),()),(()))) else(some ((false,()),(())))) else(if(x0 == 9)=true then(if(x0 == 9)=true then(some (((x1 == 1),()),(()))) else(some ((false,()),(())))) else(if(x0 == 10)=true then(some (((x1 == 1),()),(()))) else(some ((false,()),(())))))))) else(if(x0 == 6)=true then(if(x0 == 6)=true then(if(decide (x1≥1))=true then(some (((decide (x1≤10)),()),(()))) else(some ((false,()),(())))) else(if(x0 == 5)=true then(if(x1 == 2)=true then(some ((true,()),(()))) else(some (((x1 == 3),()),(())))) else(if(x0 == 8)=true then(if(x0 == 8)=true then(some (((x1 == 1),()),(()))) else(some ((false,()),(())))) else(if(x0 == 9)=true then(if(x0 == 9)=true then(some (((x1 == 1),()),(()))) else(some ((false,()),(())))) else(if(x0 == 10)=true then(some (((x1 == 1),()),(()))) else(some ((false,()),(())))))))) else(if(x0 == 7)=true then(if(decide (x1≥1))=true then(some (((decide (x1≤10)),()),(()))) else(some ((false,()),(())))) else(if(x0 == 5)=true then(if(x1 == 2)=true then(some ((true,()),(()))) else(some (((x1 == 3),()),(())))) else(if(x0 == 8)=true then(if(x0 == 8)=true then(some (((x1 == 1),()),(()))) else(some ((false,()),(())))) else(if(x0 == 9)=true then(if(x0 == 9)=true then(some (((x1 == 1),()),(()))) else(some ((false,()),(())))) else(if(x0 == 10)=true then(some (((x1 == 1),()),(()))) else(some ((false,()),(())))))))))))):=ay (by kernel_rfl)
theorem Ng {x0}:xf x0=if(x0.1 == 1)=true then(if(x0.2.1 == 0)=true then(if(bp bI x0.2.2.2.1 ((0,0,()),false,false,()))=true then(if(bp bI x0.2.2.2.2.1 ((0,0,()),false,false,()))=true then(if((List.length x0.2.2.2.2.2.1:Int) == 0)=true then((ed x0.2.2.1).bind fun z1=>(if z1.1.1=true then(if(x0.2.2.1.1 != 0)=true then(if(x0.2.2.1.1 != 1)=true then(some ((true,()),(()))) else(some (((decide (x0.2.2.1.2.1≥0)),()),(())))) else(some ((false,()),(())))) else(some ((false,()),(()))))) else(some ((false,()),(())))) else(some ((false,()),(())))) else(some ((false,()),(())))) else(some ((false,()),(())))) else(if(x0.1 == 2)=true then(if(x0.2.1 == 0)=true then(if(bp am x0.2.2.1 (0,0,(⟨#[]⟩:ByteArray),()))=true then(if(bp bI x0.2.2.2.2.1 ((0,0,()),false,false,()))=true then(if((List.length x0.2.2.2.2.2.1:Int) == 0)=true then((dn x0.2.2.2.1.1).bind fun z2=>(some ((z2.1.1,()),(())))) else(some ((false,()),(())))) else(some ((false,()),(())))) else(some ((false,()),(())))) else(some ((false,()),(())))) else(if(x0.1 == 3)=true then(if(x0.2.1 == 0)=true then(if(bp am x0.2.2.1 (0,0,(⟨#[]⟩:ByteArray),()))=true then(if((List.length x0.2.2.2.2.2.1:Int) == 0)=true then((IB (x0.2.2.2.1.1,x0.2.2.2.2.1.1,())).bind fun z3=>(some ((z3.1.1,()),(())))) else(some ((false,()),(())))) else(some ((false,()),(())))) else(some ((false,()),(())))) else(if(x0.1 == 4)=true then(if(x0.2.1 == 0)=true then(if(bp am x0.2.2.1 (0,0,(⟨#[]⟩:ByteArray),()))=true then(if(bp bI x0.2.2.2.1 ((0,0,()),false,false,()))=true then(if(bp bI x0.2.2.2.2.1 ((0,0,()),false,false,()))=true then(some ((((List.length x0.2.2.2.2.2.1:Int) == 1),()),(()))) else(some ((false,()),(())))) else(some ((false,()),(())))) else(some ((false,()),(())))) else(some ((false,()),(())))) else(if(x0.1 == 5)=true then((g8 x0.2.1 1 11).bind fun z4=>(if z4.1.1=true then(if(bp am x0.2.2.1 (0,0,(⟨#[]⟩:ByteArray),()))=true then(if(bp bI x0.2.2.2.1 ((0,0,()),false,false,()))=true then(if(bp bI x0.2.2.2.2.1 ((0,0,()),false,false,()))=true then(some ((((List.length x0.2.2.2.2.2.1:Int) == 2),()),(()))) else(some ((false,()),(())))) else(some ((false,()),(())))) else(some ((false,()),(())))) else(some ((false,()),(()))))) else(if(x0.1 == 6)=true then((IC x0.2.1 (List.length x0.2.2.2.2.2.1:Int)).bind fun z5=>(if z5.1.1=true then(if(bp am x0.2.2.1 (0,0,(⟨#[]⟩:ByteArray),()))=true then(if(bp bI x0.2.2.2.1 ((0,0,()),false,false,()))=true then(some (((bp bI x0.2.2.2.2.1 ((0,0,()),false,false,())),()),(()))) else(some ((false,()),(())))) else(some ((false,()),(())))) else(some ((false,()),(()))))) else(some ((false,()),(())))))))):=ay (by kernel_rfl)
theorem Nh {x0 x1 x2 x3 x4}:cc x0 x1 x2 x3 x4=app x4 ([x0]:(List aa)) 120 fun y1=>(if(decide ((List.length y1:Int) > 60))=true then(some (((IntKind.i64.wrap ((List.length y1:Int) - 1)),()),((x1,x2,true,y1,()),()))) else((xf x0).bind fun z1=>(if(!z1.1.1)=true then(some (((IntKind.i64.wrap ((List.length y1:Int) - 1)),()),((x1,x2,true,y1,()),()))) else(some (((IntKind.i64.wrap ((List.length y1:Int) - 1)),()),((x1,x2,x3,y1,()),())))))):=ay (by kernel_rfl)
theorem Lp {x0 x1 x2 x3}:A4 x0 x1 x2 x3=kW (⟨#[]⟩:ByteArray) x0 x1 x2 x3:=ay (by kernel_rfl)
theorem Sy {x0}:mY x0=inb ([(⟨#[]⟩:ByteArray),(⟨#[35,68,73,86,33]⟩:ByteArray),(⟨#[35,84,89,80,69,33]⟩:ByteArray),(⟨#[35,82,69,70,33]⟩:ByteArray),(⟨#[35,79,86,69,82,33]⟩:ByteArray),(⟨#[35,67,89,67,76,69,33]⟩:ByteArray)]:(List ByteArray)) x0 (some (((List.getD ([(⟨#[]⟩:ByteArray),(⟨#[35,68,73,86,33]⟩:ByteArray),(⟨#[35,84,89,80,69,33]⟩:ByteArray),(⟨#[35,82,69,70,33]⟩:ByteArray),(⟨#[35,79,86,69,82,33]⟩:ByteArray),(⟨#[35,67,89,67,76,69,33]⟩:ByteArray)]:(List ByteArray)) (Int.toNat x0) (⟨#[]⟩:ByteArray)),()),(()))):=ay (by kernel_rfl)
theorem PG {x0}:cA x0=some (((4,x0,(⟨#[]⟩:ByteArray),()),()),(())):=ay (by kernel_rfl)
theorem Lq {x0 x1 x2 x3}:mZ x0 x1 x2 x3=dS x1 x0 x1 x2 x3:=ay (by kernel_rfl)
theorem WU {x0}:LW x0=inb ([(⟨#[]⟩:ByteArray),(⟨#[83,85,77]⟩:ByteArray),(⟨#[77,73,78]⟩:ByteArray),(⟨#[77,65,88]⟩:ByteArray),(⟨#[67,79,85,78,84]⟩:ByteArray),(⟨#[73,70]⟩:ByteArray),(⟨#[65,78,68]⟩:ByteArray),(⟨#[79,82]⟩:ByteArray),(⟨#[78,79,84]⟩:ByteArray),(⟨#[65,66,83]⟩:ByteArray),(⟨#[76,69,78]⟩:ByteArray)]:(List ByteArray)) x0 (some (((List.getD ([(⟨#[]⟩:ByteArray),(⟨#[83,85,77]⟩:ByteArray),(⟨#[77,73,78]⟩:ByteArray),(⟨#[77,65,88]⟩:ByteArray),(⟨#[67,79,85,78,84]⟩:ByteArray),(⟨#[73,70]⟩:ByteArray),(⟨#[65,78,68]⟩:ByteArray),(⟨#[79,82]⟩:ByteArray),(⟨#[78,79,84]⟩:ByteArray),(⟨#[65,66,83]⟩:ByteArray),(⟨#[76,69,78]⟩:ByteArray)]:(List ByteArray)) (Int.toNat x0) (⟨#[]⟩:ByteArray)),()),(()))):=ay (by kernel_rfl)
theorem PH {x0}:vz x0=(g8 x0 1 52).bind fun z1=>(if(!z1.1.1)=true then(some (((⟨#[]⟩:ByteArray),()),(()))) else(yp x0 (⟨#[]⟩:ByteArray))):=ay (by kernel_rfl)
theorem PI {x0}:rP x0=yq x0 1:=ay (by kernel_rfl)
theorem UZ {x0 x1}:cW x0 x1=if(decide ((ByteArray.size x0:Int) < 1))=true then(some ((0,false,()),(()))) else(if(decide ((ByteArray.size x0:Int) > x1))=true then(some ((0,false,()),(()))) else(ez x0 0 fun y1=>(if(y1 == 48)=true then(if(decide ((ByteArray.size x0:Int) > 1))=true then(some ((0,false,()),(()))) else(pI x0 0 0)) else(pI x0 0 0)))):=ay (by kernel_rfl)
theorem Lr {x0}:m5 x0=if(decide ((ByteArray.size x0:Int) > 0))=true then(ez x0 0 fun y1=>(if(y1 == 36)=true then(jn x0 1 fun y2=>(jg y2 0 0 0 false false 0 0 true false)) else(jg x0 0 0 0 false false 0 0 false false))) else(jg x0 0 0 0 false false 0 0 false false):=ay (by kernel_rfl)
theorem Ni {x0 x1 x2 x3}:s9 x0 x1 x2 x3=(j0 x0 x1 x2 x3).bind fun z1=>((mZ z1.2.1.1 z1.2.1.2.1 z1.2.1.2.2.1 z1.2.1.2.2.2.1).bind fun z2=>((m5 z2.1.1).bind fun z3=>(if z3.1.2.1=true then((dN (⟨#[58]⟩:ByteArray) z2.2.1.1 z2.2.1.2.1 z2.2.1.2.2.1 z2.2.1.2.2.2.1).bind fun z4=>(if z4.1.1=true then((j0 z4.2.1.1 z4.2.1.2.1 z4.2.1.2.2.1 z4.2.1.2.2.2.1).bind fun z5=>((mZ z5.2.1.1 z5.2.1.2.1 z5.2.1.2.2.1 z5.2.1.2.2.2.1).bind fun z6=>((m5 z6.1.1).bind fun z7=>(if(!z7.1.2.1)=true then(some ((0,()),((z6.2.1.1,z6.2.1.2.1,true,z6.2.1.2.2.2.1,()),()))) else((cc (3,0,(0,0,(⟨#[]⟩:ByteArray),()),z3.1.1,z7.1.1,([]:(List Int)),()) z6.2.1.1 z6.2.1.2.1 z6.2.1.2.2.1 z6.2.1.2.2.2.1).bind fun z8=>(some ((z8.1.1,()),(z8.2.1,())))))))) else((eR 1 z4.2.1.1 z1.2.1.2.1 z4.2.1.2.2.1 z4.2.1.2.2.2.1).bind fun z9=>(some ((z9.1.1,()),(z9.2.1,())))))) else((eR 1 z2.2.1.1 z1.2.1.2.1 z2.2.1.2.2.1 z2.2.1.2.2.2.1).bind fun z10=>(some ((z10.1.1,()),(z10.2.1,()))))))):=ay (by kernel_rfl)
theorem Ls {x0 x1 x2 x3 x4}:A5 x0 x1 x2 x3 x4=tR x0 x1 x2 x3 x4 ([]:(List Int)):=ay (by kernel_rfl)
theorem Lt {x0}:kE x0=if(ByteArray.toList x0 == ByteArray.toList (⟨#[]⟩:ByteArray))=true then(some (((0,0,(⟨#[]⟩:ByteArray),()),true,()),(()))) else(ez x0 0 fun y1=>(if(y1 == 39)=true then(jn x0 1 fun y2=>(aP 0 0 (⟨#[]⟩:ByteArray) 2 0 y2)) else(if(ByteArray.toList x0 == ByteArray.toList (⟨#[84,82,85,69]⟩:ByteArray))=true then(if(ByteArray.toList x0 == ByteArray.toList (⟨#[84,82,85,69]⟩:ByteArray))=true then(if(ByteArray.toList x0 == ByteArray.toList (⟨#[84,82,85,69]⟩:ByteArray))=true then(aP 0 0 (⟨#[]⟩:ByteArray) 3 1 (⟨#[]⟩:ByteArray)) else(aP 0 0 (⟨#[]⟩:ByteArray) 3 0 (⟨#[]⟩:ByteArray))) else(ez x0 0 fun y3=>(if(y3 == 35)=true then(eV x0 1 0 0 (⟨#[]⟩:ByteArray) 4 0 (⟨#[]⟩:ByteArray)) else(ez x0 0 fun y4=>(if(y4 == 45)=true then(jn x0 1 fun y5=>((cW y5 16).bind fun z1=>(if(!z1.1.2.1)=true then(some (((0,0,(⟨#[]⟩:ByteArray),()),false,()),(()))) else(if(y4 == 45)=true then(if(z1.1.1 == 0)=true then(some (((0,0,(⟨#[]⟩:ByteArray),()),false,()),(()))) else(if(y4 == 45)=true then(aP 0 0 (⟨#[]⟩:ByteArray) 1 (IntKind.i64.wrap (0 - z1.1.1)) (⟨#[]⟩:ByteArray)) else(aP 0 0 (⟨#[]⟩:ByteArray) 1 z1.1.1 (⟨#[]⟩:ByteArray)))) else(if(y4 == 45)=true then(aP 0 0 (⟨#[]⟩:ByteArray) 1 (IntKind.i64.wrap (0 - z1.1.1)) (⟨#[]⟩:ByteArray)) else(aP 0 0 (⟨#[]⟩:ByteArray) 1 z1.1.1 (⟨#[]⟩:ByteArray))))))) else((cW x0 16).bind fun z2=>(if(!z2.1.2.1)=true then(some (((0,0,(⟨#[]⟩:ByteArray),()),false,()),(()))) else(if(y4 == 45)=true then(if(z2.1.1 == 0)=true then(some (((0,0,(⟨#[]⟩:ByteArray),()),false,()),(()))) else(if(y4 == 45)=true then(aP 0 0 (⟨#[]⟩:ByteArray) 1 (IntKind.i64.wrap (0 - z2.1.1)) (⟨#[]⟩:ByteArray)) else(aP 0 0 (⟨#[]⟩:ByteArray) 1 z2.1.1 (⟨#[]⟩:ByteArray)))) else(if(y4 == 45)=true then(aP 0 0 (⟨#[]⟩:ByteArray) 1 (IntKind.i64.wrap (0 - z2.1.1)) (⟨#[]⟩:ByteArray)) else(aP 0 0 (⟨#[]⟩:ByteArray) 1 z2.1.1 (⟨#[]⟩:ByteArray))))))))))) else(if(ByteArray.toList x0 == ByteArray.toList (⟨#[70,65,76,83,69]⟩:ByteArray))=true then(if(ByteArray.toList x0 == ByteArray.toList (⟨#[84,82,85,69]⟩:ByteArray))=true then(aP 0 0 (⟨#[]⟩:ByteArray) 3 1 (⟨#[]⟩:ByteArray)) else(aP 0 0 (⟨#[]⟩:ByteArray) 3 0 (⟨#[]⟩:ByteArray))) else(ez x0 0 fun y6=>(if(y6 == 35)=true then(eV x0 1 0 0 (⟨#[]⟩:ByteArray) 4 0 (⟨#[]⟩:ByteArray)) else(ez x0 0 fun y7=>(if(y7 == 45)=true then(jn x0 1 fun y8=>((cW y8 16).bind fun z3=>(if(!z3.1.2.1)=true then(some (((0,0,(⟨#[]⟩:ByteArray),()),false,()),(()))) else(if(y7 == 45)=true then(if(z3.1.1 == 0)=true then(some (((0,0,(⟨#[]⟩:ByteArray),()),false,()),(()))) else(if(y7 == 45)=true then(aP 0 0 (⟨#[]⟩:ByteArray) 1 (IntKind.i64.wrap (0 - z3.1.1)) (⟨#[]⟩:ByteArray)) else(aP 0 0 (⟨#[]⟩:ByteArray) 1 z3.1.1 (⟨#[]⟩:ByteArray)))) else(if(y7 == 45)=true then(aP 0 0 (⟨#[]⟩:ByteArray) 1 (IntKind.i64.wrap (0 - z3.1.1)) (⟨#[]⟩:ByteArray)) else(aP 0 0 (⟨#[]⟩:ByteArray) 1 z3.1.1 (⟨#[]⟩:ByteArray))))))) else((cW x0 16).bind fun z4=>(if(!z4.1.2.1)=true then(some (((0,0,(⟨#[]⟩:ByteArray),()),false,()),(()))) else(if(y7 == 45)=true then(if(z4.1.1 == 0)=true then(some (((0,0,(⟨#[]⟩:ByteArray),()),false,()),(()))) else(if(y7 == 45)=true then(aP 0 0 (⟨#[]⟩:ByteArray) 1 (IntKind.i64.wrap (0 - z4.1.1)) (⟨#[]⟩:ByteArray)) else(aP 0 0 (⟨#[]⟩:ByteArray) 1 z4.1.1 (⟨#[]⟩:ByteArray)))) else(if(y7 == 45)=true then(aP 0 0 (⟨#[]⟩:ByteArray) 1 (IntKind.i64.wrap (0 - z4.1.1)) (⟨#[]⟩:ByteArray)) else(aP 0 0 (⟨#[]⟩:ByteArray) 1 z4.1.1 (⟨#[]⟩:ByteArray)))))))))))))):=ay (by kernel_rfl)
theorem Nj {x0 x1 x2 x3}:xg x0 x1 x2 x3=(dN (⟨#[45]⟩:ByteArray) x0 x1 x2 x3).bind fun z1=>(if z1.1.1=true then((eR 5 z1.2.1.1 z1.2.1.2.1 z1.2.1.2.2.1 z1.2.1.2.2.2.1).bind fun z2=>((cc (4,0,(0,0,(⟨#[]⟩:ByteArray),()),((0,0,()),false,false,()),((0,0,()),false,false,()),([z2.1.1]:(List Int)),()) z2.2.1.1 z2.2.1.2.1 z2.2.1.2.2.1 z2.2.1.2.2.2.1).bind fun z3=>(some ((z3.1.1,()),(z3.2.1,()))))) else((dN (⟨#[40]⟩:ByteArray) z1.2.1.1 z1.2.1.2.1 z1.2.1.2.2.1 z1.2.1.2.2.2.1).bind fun z4=>(if z4.1.1=true then((eR 1 z4.2.1.1 z4.2.1.2.1 z4.2.1.2.2.1 z4.2.1.2.2.2.1).bind fun z5=>((dN (⟨#[41]⟩:ByteArray) z5.2.1.1 z5.2.1.2.1 z5.2.1.2.2.1 z5.2.1.2.2.2.1).bind fun z6=>(if(!z6.1.1)=true then(some ((z5.1.1,()),((z6.2.1.1,z6.2.1.2.1,true,z6.2.1.2.2.2.1,()),()))) else(some ((z5.1.1,()),(z6.2.1,())))))) else((dN (⟨#[34]⟩:ByteArray) z4.2.1.1 z4.2.1.2.1 z4.2.1.2.2.1 z4.2.1.2.2.2.1).bind fun z7=>(if z7.1.1=true then((A4 z7.2.1.1 z7.2.1.2.1 z7.2.1.2.2.1 z7.2.1.2.2.2.1).bind fun z8=>(some ((z8.1.1,()),(z8.2.1,())))) else((dN (⟨#[35]⟩:ByteArray) z7.2.1.1 z7.2.1.2.1 z7.2.1.2.2.1 z7.2.1.2.2.2.1).bind fun z9=>(if z9.1.1=true then(jh 1 z9.2.1.1 z9.2.1.2.1 z9.2.1.2.2.1 z9.2.1.2.2.2.1) else((mZ z9.2.1.1 z9.2.1.2.1 z9.2.1.2.2.1 z9.2.1.2.2.2.1).bind fun z10=>(fA z10.1.1 1 z10.2.1.1 z10.2.1.2.1 z10.2.1.2.2.1 z10.2.1.2.2.2.1))))))))):=ay (by kernel_rfl)
theorem PJ {x0}:vA x0=if(decide (x0≥6))=true then(some ((1,()),(()))) else(if(x0 == 5)=true then(some ((2,()),(()))) else(if(decide (x0≥3))=true then(some ((4,()),(()))) else(some ((3,()),(()))))):=ay (by kernel_rfl)
theorem Sz {x0}:zz x0=inb ([(⟨#[]⟩:ByteArray),(⟨#[43]⟩:ByteArray),(⟨#[45]⟩:ByteArray),(⟨#[42]⟩:ByteArray),(⟨#[47]⟩:ByteArray),(⟨#[38]⟩:ByteArray),(⟨#[61]⟩:ByteArray),(⟨#[60,62]⟩:ByteArray),(⟨#[60]⟩:ByteArray),(⟨#[60,61]⟩:ByteArray),(⟨#[62]⟩:ByteArray),(⟨#[62,61]⟩:ByteArray)]:(List ByteArray)) x0 (some (((List.getD ([(⟨#[]⟩:ByteArray),(⟨#[43]⟩:ByteArray),(⟨#[45]⟩:ByteArray),(⟨#[42]⟩:ByteArray),(⟨#[47]⟩:ByteArray),(⟨#[38]⟩:ByteArray),(⟨#[61]⟩:ByteArray),(⟨#[60,62]⟩:ByteArray),(⟨#[60]⟩:ByteArray),(⟨#[60,61]⟩:ByteArray),(⟨#[62]⟩:ByteArray),(⟨#[62,61]⟩:ByteArray)]:(List ByteArray)) (Int.toNat x0) (⟨#[]⟩:ByteArray)),()),(()))):=ay (by kernel_rfl)
theorem PK {x0 x1 x2 x3 x4}:FJ x0 x1 x2 x3 x4=sL x0 0 x1 x2 x3 x4 ([7,9,11,6,8,10,1,2,3,4,5]:(List Int)):=ay (by kernel_rfl)
theorem SA {x0 x1}:zA x0 x1=ix x0 x1 (an.dflt) fun y1=>(uI x0 x1 (IntKind.i64.wrap (x1 - 1)) (IntKind.i64.wrap ((List.length y1.2.2.2.2.2.1:Int) - 1))):=ay (by kernel_rfl)
theorem SB {x0 x1}:zB x0 x1=uJ x0 x1 0 0:=ay (by kernel_rfl)
theorem Lu {x0}:m6 x0=if(decide ((List.length x0:Int) < 1))=true then(some ((false,()),(()))) else(if(decide ((List.length x0:Int) > 60))=true then(some ((false,()),(()))) else(eH x0 0)):=ay (by kernel_rfl)
theorem Ho {x0}:j6 x0=(vy x0).bind fun z1=>(if(!z1.1.1)=true then(some ((([]:(List aa)),false,()),(()))) else((eR 1 x0 0 false ([]:(List aa))).bind fun z2=>((j0 z2.2.1.1 z2.2.1.2.1 z2.2.1.2.2.1 z2.2.1.2.2.2.1).bind fun z3=>(if z3.2.1.2.2.1=true then(some ((([]:(List aa)),false,()),(()))) else(if(decide (z3.2.1.2.1 < (ByteArray.size x0:Int)))=true then(some ((([]:(List aa)),false,()),(()))) else((m6 z3.2.1.2.2.2.1).bind fun z4=>(if(!z4.1.1)=true then(some ((([]:(List aa)),false,()),(()))) else(some ((z3.2.1.2.2.2.1,true,()),(())))))))))):=ay (by kernel_rfl)
theorem PL {x0}:FK x0=n7 x0 (⟨#[34]⟩:ByteArray) 0:=ay (by kernel_rfl)
theorem KH {x0}:nX x0=if(decide (x0 < 0))=true then((nX (IntKind.i64.wrap (0 - x0))).bind fun z1=>(cats (⟨#[45]⟩:ByteArray) z1.1.1 fun y1=>(some ((y1,()),(()))))) else(tk x0 (⟨#[]⟩:ByteArray)):=ay (by kernel_rfl)
theorem SC {x0}:IE x0=if(x0 == 1)=true then(some (((⟨#[84,82,85,69]⟩:ByteArray),()),(()))) else(some (((⟨#[70,65,76,83,69]⟩:ByteArray),()),(()))):=ay (by kernel_rfl)
theorem Lv {x0}:dX x0=(ed x0).bind fun z1=>(if(!z1.1.1)=true then(some (((⟨#[]⟩:ByteArray),()),(()))) else(if(x0.1 == 1)=true then((nX x0.2.1).bind fun z2=>(some ((z2.1.1,()),(())))) else(if(x0.1 == 2)=true then(cats (⟨#[39]⟩:ByteArray) x0.2.2.1 fun y1=>(some ((y1,()),(())))) else(if(x0.1 == 3)=true then((IE x0.2.1).bind fun z3=>(some ((z3.1.1,()),(())))) else(if(x0.1 == 4)=true then((mY x0.2.1).bind fun z4=>(some ((z4.1.1,()),(())))) else(some (((⟨#[]⟩:ByteArray),()),(())))))))):=ay (by kernel_rfl)
theorem Lw {x0}:qw x0=(dn x0.1).bind fun z1=>(if(!z1.1.1)=true then(some (((⟨#[]⟩:ByteArray),()),(()))) else((vz x0.1.1).bind fun z2=>(if x0.2.1=true then(cats (⟨#[36]⟩:ByteArray) z2.1.1 fun y1=>(if x0.2.2.1=true then(cats y1 (⟨#[36]⟩:ByteArray) fun y2=>((nX x0.1.2.1).bind fun z3=>(cats y2 z3.1.1 fun y3=>(some ((y3,()),(())))))) else((nX x0.1.2.1).bind fun z4=>(cats y1 z4.1.1 fun y4=>(some ((y4,()),(()))))))) else(if x0.2.2.1=true then(cats z2.1.1 (⟨#[36]⟩:ByteArray) fun y5=>((nX x0.1.2.1).bind fun z5=>(cats y5 z5.1.1 fun y6=>(some ((y6,()),(())))))) else((nX x0.1.2.1).bind fun z6=>(cats z2.1.1 z6.1.1 fun y7=>(some ((y7,()),(()))))))))):=ay (by kernel_rfl)
theorem SD {x0 x1 x2}:m7 x0 x1 x2=ix x0 x1 (an.dflt) fun y1=>(if(y1.1 == 1)=true then(if(y1.2.2.1.1 == 2)=true then((FK y1.2.2.1.2.2.1).bind fun z1=>(some ((z1.1.1,()),(())))) else((dX y1.2.2.1).bind fun z2=>(some ((z2.1.1,()),(()))))) else(if(y1.1 == 2)=true then((qw y1.2.2.2.1).bind fun z3=>(some ((z3.1.1,()),(())))) else(if(y1.1 == 3)=true then((qw y1.2.2.2.1).bind fun z4=>(cats z4.1.1 (⟨#[58]⟩:ByteArray) fun y2=>((qw y1.2.2.2.2.1).bind fun z5=>(cats y2 z5.1.1 fun y3=>(some ((y3,()),(()))))))) else(if(y1.1 == 4)=true then(ix y1.2.2.2.2.2.1 0 0 fun y4=>((m7 x0 y4 5).bind fun z6=>(cats (⟨#[45]⟩:ByteArray) z6.1.1 fun y5=>(some ((y5,()),(())))))) else(if(y1.1 == 5)=true then((vA y1.2.1).bind fun z7=>(ix y1.2.2.2.2.2.1 0 0 fun y6=>((m7 x0 y6 z7.1.1).bind fun z8=>((zz y1.2.1).bind fun z9=>(cats z8.1.1 z9.1.1 fun y7=>(ix y1.2.2.2.2.2.1 1 0 fun y8=>((m7 x0 y8 (IntKind.i64.wrap (z7.1.1+1))).bind fun z10=>(cats y7 z10.1.1 fun y9=>(if(decide (z7.1.1 < x2))=true then(cats (⟨#[40]⟩:ByteArray) y9 fun y10=>(cats y10 (⟨#[41]⟩:ByteArray) fun y11=>(some ((y11,()),(()))))) else(some ((y9,()),(())))))))))))) else((LW y1.2.1).bind fun z11=>(cats z11.1.1 (⟨#[40]⟩:ByteArray) fun y12=>(n8 x0 y12 0 y1.1 y1.2.1 y1.2.2.1 y1.2.2.2.1 y1.2.2.2.2.1 y1.2.2.2.2.2.1)))))))):=ay (by kernel_rfl)
theorem xt {x0}:qx x0=(m6 x0).bind fun z1=>(if(!z1.1.1)=true then(some (((⟨#[]⟩:ByteArray),()),(()))) else((m7 x0 (IntKind.i64.wrap ((List.length x0:Int) - 1)) 0).bind fun z2=>(if(decide ((ByteArray.size z2.1.1:Int) > 200))=true then(some (((⟨#[]⟩:ByteArray),()),(()))) else(some ((z2.1.1,()),(())))))):=ay (by kernel_rfl)
theorem Nk {x0}:CW x0=if(decide ((ByteArray.size x0:Int) > 0))=true then(ez x0 0 fun y1=>(if(y1 == 45)=true then(jn x0 1 fun y2=>(if(ByteArray.toList y2 == ByteArray.toList (⟨#[]⟩:ByteArray))=true then(some (((0,0,(⟨#[]⟩:ByteArray),()),false,()),(()))) else(kb y2 (y1 == 45) 0 0 (⟨#[]⟩:ByteArray)))) else(if(ByteArray.toList x0 == ByteArray.toList (⟨#[]⟩:ByteArray))=true then(some (((0,0,(⟨#[]⟩:ByteArray),()),false,()),(()))) else(kb x0 (y1 == 45) 0 0 (⟨#[]⟩:ByteArray))))) else(if(ByteArray.toList x0 == ByteArray.toList (⟨#[]⟩:ByteArray))=true then(some (((0,0,(⟨#[]⟩:ByteArray),()),false,()),(()))) else(kb x0 false 0 0 (⟨#[]⟩:ByteArray))):=ay (by kernel_rfl)
end Go.Proofs.YteaahciglahehaaGreatDoor.Abs
namespace Go.Proofs.YteaahciglahehaaGreatDoor.Abs
open Go Go.Proofs.YteaahciglahehaaGreatDoor
theorem yy {x0}:mb x0=(vy x0).bind fun z1=>(if(!z1.1.1)=true then(some (((⟨#[]⟩:ByteArray),false,()),(()))) else(if(ByteArray.toList x0 == ByteArray.toList (⟨#[]⟩:ByteArray))=true then(some (((⟨#[]⟩:ByteArray),true,()),(()))) else(ez x0 0 fun y1=>(if(y1 == 61)=true then(jn x0 1 fun y2=>((j6 y2).bind fun z2=>((qx z2.1.1).bind fun z3=>(if(!z2.1.2.1)=true then(some (((⟨#[]⟩:ByteArray),false,()),(()))) else(if(ByteArray.toList z3.1.1 == ByteArray.toList (⟨#[]⟩:ByteArray))=true then(some (((⟨#[]⟩:ByteArray),false,()),(()))) else(if(decide ((IntKind.i64.wrap ((ByteArray.size z3.1.1:Int)+1)) > 200))=true then(some (((⟨#[]⟩:ByteArray),false,()),(()))) else(cats (⟨#[61]⟩:ByteArray) z3.1.1 fun y3=>(some ((y3,true,()),(())))))))))) else((CW x0).bind fun z4=>(if z4.1.2.1=true then((dX z4.1.1).bind fun z5=>(some ((z5.1.1,true,()),(())))) else((kE x0).bind fun z6=>(if(!z6.1.2.1)=true then((dX (2,0,x0,())).bind fun z7=>(if(decide ((ByteArray.size z7.1.1:Int) > 200))=true then(some (((⟨#[]⟩:ByteArray),false,()),(()))) else(some ((z7.1.1,true,()),(()))))) else((dX z6.1.1).bind fun z8=>(if(decide ((ByteArray.size z8.1.1:Int) > 200))=true then(some (((⟨#[]⟩:ByteArray),false,()),(()))) else(some ((z8.1.1,true,()),(()))))))))))))):=ay (by kernel_rfl)
theorem E2 {x0 x1}:oY x0 x1=if(decide (x0.2.1 < x1.2.1))=true then(some ((true,()),(()))) else(if(x0.2.1 == x1.2.1)=true then(some (((decide (x0.1 < x1.1)),()),(()))) else(some ((false,()),(())))):=ay (by kernel_rfl)
theorem PM {x0}:FL x0=if(decide ((List.length x0:Int) > 120))=true then(some ((false,()),(()))) else(oa x0 0):=ay (by kernel_rfl)
theorem IQ {x0}:fa x0=cats (⟨#[61]⟩:ByteArray) x0 fun y1=>((mb y1).bind fun z1=>(if z1.1.2.1=true then(cats (⟨#[61]⟩:ByteArray) x0 fun y2=>(some (((ByteArray.toList z1.1.1 == ByteArray.toList y2),()),(())))) else(some ((false,()),(()))))):=ay (by kernel_rfl)
theorem PN {x0}:FM x0=if(decide ((List.length x0:Int) > 30))=true then(some ((false,()),(()))) else(ig x0 0):=ay (by kernel_rfl)
theorem U0 {x0 x1 x2}:He x0 x1 x2=(FL x0).bind fun z1=>(if(!z1.1.1)=true then(some ((2,()),(()))) else((FM x1).bind fun z2=>(if(!z2.1.1)=true then(some ((1,()),(()))) else((g8 x2 0 400).bind fun z3=>(if(!z3.1.1)=true then(some ((1,()),(()))) else(some ((0,()),(())))))))):=ay (by kernel_rfl)
theorem U1 {x0 x1 x2}:MY x0 x1 x2=ii x0 x2 (ByteArray.toList x2 == ByteArray.toList (⟨#[]⟩:ByteArray)) 0 x1.1 x1.2.1 ([]:(List ae)):=ay (by kernel_rfl)
theorem U2 {x0 x1}:nY x0 x1=xl x0 0 x1.1 x1.2.1:=ay (by kernel_rfl)
theorem SE {x0 x1 x2}:iu x0 x1 x2=(MY x0.1 x1 x2).bind fun z1=>(if(decide ((List.length z1.1.1:Int) > 120))=true then(some (((x0.1,x0.2.1,x0.2.2.1,5,x0.2.2.2.2.1,x0.2.2.2.2.2.1,()),()),(()))) else((nY x0.2.2.2.2.2.1 x1).bind fun z2=>(if(!z2.1.1)=true then(app ([]:(List ao)) x0.2.2.2.2.2.1 16 fun y1=>(app y1 ([x1]:(List ao)) 16 fun y2=>(some (((z1.1.1,x0.2.1,x0.2.2.1,x0.2.2.2.1,x0.2.2.2.2.1,y2,()),()),(()))))) else(some (((z1.1.1,x0.2.1,x0.2.2.1,x0.2.2.2.1,x0.2.2.2.2.1,x0.2.2.2.2.2.1,()),()),(())))))):=ay (by kernel_rfl)
theorem Lx {x0}:qy x0=if(ByteArray.toList x0 == ByteArray.toList (⟨#[]⟩:ByteArray))=true then(some ((([]:(List aa)),false,()),(()))) else(ez x0 0 fun y1=>(if(y1 != 61)=true then(some ((([]:(List aa)),false,()),(()))) else(jn x0 1 fun y2=>((j6 y2).bind fun z1=>(some (z1.1,(()))))))):=ay (by kernel_rfl)
theorem PO {x0}:FN x0=(m6 x0).bind fun z1=>(if(!z1.1.1)=true then(some ((([]:(List ag)),()),(()))) else(ll x0 0 ([]:(List ag)))):=ay (by kernel_rfl)
theorem PP {x0}:rQ x0=(qy x0).bind fun z1=>(if(!z1.1.2.1)=true then(some ((([]:(List ag)),()),(()))) else((FN z1.1.1).bind fun z2=>(some ((z2.1.1,()),(()))))):=ay (by kernel_rfl)
theorem Nl {x0 x1}:pC x0 x1=(g8 x0.1 x1.1.1 x1.2.1.1).bind fun z1=>(if z1.1.1=true then((g8 x0.2.1 x1.1.2.1 x1.2.1.2.1).bind fun z2=>(some ((z2.1.1,()),(())))) else(some ((false,()),(())))):=ay (by kernel_rfl)
theorem PQ {x0 x1}:A6 x0 x1=cats (⟨#[61]⟩:ByteArray) x1 fun y1=>((rQ y1).bind fun z1=>(lm 0 x0.1 x0.2.1 x0.2.2.1 x0.2.2.2.1 x0.2.2.2.2.1 x0.2.2.2.2.2.1 0 0 0 z1.1.1 ([]:(List ae)) ([]:(List ag)) ([]:(List ao)))):=ay (by kernel_rfl)
theorem WV {x0 x1}:LX x0 x1=Bc x0 0 x1.1 x1.2.1 0 0 (⟨#[]⟩:ByteArray):=ay (by kernel_rfl)
theorem WW {x0 x1}:Hf x0 x1=Bd x0 0 x1.1 x1.2.1:=ay (by kernel_rfl)
theorem PR {x0 x1}:oZ x0 x1=(Hf x0 x1).bind fun z1=>((rQ z1.1.1).bind fun z2=>(jJ x0 0 ([]:(List ao)) z2.1.1)):=ay (by kernel_rfl)
theorem Nm {x0 x1}:xh x0 x1=(oZ x0 x1).bind fun z1=>(mj x0 0 x1.1 x1.2.1 z1.1.1):=ay (by kernel_rfl)
theorem U3 {x0 x1}:kT x0 x1=xm x0 0 x1.1 x1.2.1:=ay (by kernel_rfl)
theorem Nn {x0}:CX x0=if(decide ((List.length x0:Int) > 120))=true then(some ((false,()),(()))) else(ml x0 0):=ay (by kernel_rfl)
theorem SF {x0 x1 x2}:eT x0 x1 x2=ix x0 x1 (an.dflt) fun y1=>(if(y1.1 == 1)=true then(some ((y1.2.2.1,()),(()))) else(if(y1.1 == 2)=true then((LX x2 y1.2.2.2.1.1).bind fun z1=>(some ((z1.1.1,()),(())))) else(if(y1.1 == 3)=true then((cA 2).bind fun z2=>(some ((z2.1.1,()),(())))) else(if(y1.1 == 4)=true then(ix y1.2.2.2.2.2.1 0 0 fun y2=>((eT x0 y2 x2).bind fun z3=>((A7 z3.1.1).bind fun z4=>(some ((z4.1.1,()),(())))))) else(if(y1.1 == 6)=true then((Q2 x0 x1 x2).bind fun z5=>(some ((z5.1.1,()),(())))) else(ix y1.2.2.2.2.2.1 0 0 fun y3=>((eT x0 y3 x2).bind fun z6=>(ix y1.2.2.2.2.2.1 1 0 fun y4=>((eT x0 y4 x2).bind fun z7=>(if(y1.2.1 == 1)=true then((FO z6.1.1 z7.1.1).bind fun z8=>(some ((z8.1.1,()),(())))) else(if(y1.2.1 == 2)=true then((Se z6.1.1 z7.1.1).bind fun z9=>(some ((z9.1.1,()),(())))) else(if(y1.2.1 == 3)=true then((MZ z6.1.1 z7.1.1).bind fun z10=>(some ((z10.1.1,()),(())))) else(if(y1.2.1 == 4)=true then((Sf z6.1.1 z7.1.1).bind fun z11=>(some ((z11.1.1,()),(())))) else(if(y1.2.1 == 5)=true then((IJ z6.1.1 z7.1.1).bind fun z12=>(some ((z12.1.1,()),(())))) else((Sg y1.2.1 z6.1.1 z7.1.1).bind fun z13=>(some ((z13.1.1,()),(())))))))))))))))))):=ay (by kernel_rfl)
theorem U4 {x0}:CY x0=(ed x0).bind fun z1=>(if(!z1.1.1)=true then((cA 2).bind fun z2=>(some ((0,z2.1.1,()),(())))) else(if(x0.1 == 0)=true then(if(x0.1 == 0)=true then(some ((x0.2.1,(0,0,(⟨#[]⟩:ByteArray),()),()),(()))) else(if(x0.1 == 4)=true then(some ((0,x0,()),(()))) else((cA 2).bind fun z3=>(some ((0,z3.1.1,()),(())))))) else(if(x0.1 == 1)=true then(some ((x0.2.1,(0,0,(⟨#[]⟩:ByteArray),()),()),(()))) else(if(x0.1 == 4)=true then(some ((0,x0,()),(()))) else((cA 2).bind fun z4=>(some ((0,z4.1.1,()),(())))))))):=ay (by kernel_rfl)
theorem U5 {x0}:iC x0=(g8 x0 (-1000000000000000) 1000000000000000).bind fun z1=>(if(!z1.1.1)=true then((cA 4).bind fun z2=>(some ((z2.1.1,()),(())))) else(some (((1,x0,(⟨#[]⟩:ByteArray),()),()),(())))):=ay (by kernel_rfl)
theorem PS {x0}:A7 x0=(CY x0).bind fun z1=>(if(z1.1.2.1.1 != 0)=true then(some ((z1.1.2.1,()),(()))) else((iC (IntKind.i64.wrap (0 - z1.1.1))).bind fun z2=>(some ((z2.1.1,()),(()))))):=ay (by kernel_rfl)
theorem SG {x0}:pD x0=if(x0.1 == 3)=true then(some (((x0.2.1 == 1),(0,0,(⟨#[]⟩:ByteArray),()),()),(()))) else(if(x0.1 == 1)=true then(some (((x0.2.1 != 0),(0,0,(⟨#[]⟩:ByteArray),()),()),(()))) else(if(x0.1 == 0)=true then(some ((false,(0,0,(⟨#[]⟩:ByteArray),()),()),(()))) else(if(x0.1 == 4)=true then(some ((false,x0,()),(()))) else((cA 2).bind fun z1=>(some ((false,z1.1.1,()),(()))))))):=ay (by kernel_rfl)
theorem SH {x0}:je x0=if x0=true then(some (((3,1,(⟨#[]⟩:ByteArray),()),()),(()))) else(some (((3,0,(⟨#[]⟩:ByteArray),()),()),(()))):=ay (by kernel_rfl)
theorem U6 {x0 x1}:zC x0 x1=(CY x0).bind fun z1=>(if(z1.1.2.1.1 != 0)=true then(some ((0,0,z1.1.2.1,()),(()))) else((CY x1).bind fun z2=>(some ((z1.1.1,z2.1.1,z2.1.2.1,()),(()))))):=ay (by kernel_rfl)
theorem YC {x0 x1}:FO x0 x1=(zC x0 x1).bind fun z1=>(if(z1.1.2.2.1.1 != 0)=true then(some ((z1.1.2.2.1,()),(()))) else((iC (IntKind.i64.wrap (z1.1.1+z1.1.2.1))).bind fun z2=>(some ((z2.1.1,()),(()))))):=ay (by kernel_rfl)
theorem SI {x0}:zD x0=(ed x0).bind fun z1=>(if(!z1.1.1)=true then((cA 2).bind fun z2=>(some (((⟨#[]⟩:ByteArray),z2.1.1,()),(())))) else(if(x0.1 == 4)=true then(some (((⟨#[]⟩:ByteArray),x0,()),(()))) else(if(x0.1 == 2)=true then(some ((x0.2.2.1,(0,0,(⟨#[]⟩:ByteArray),()),()),(()))) else((dX x0).bind fun z3=>(some ((z3.1.1,(0,0,(⟨#[]⟩:ByteArray),()),()),(()))))))):=ay (by kernel_rfl)
theorem SJ {x0 x1 x2}:IG x0 x1 x2=nc x0 x1 x2 0 ([]:(List ab)):=ay (by kernel_rfl)
theorem SK {x0 x1}:II x0 x1=bo x0 x1 0 true false 0 0 0 (⟨#[]⟩:ByteArray) 1 0 (⟨#[]⟩:ByteArray):=ay (by kernel_rfl)
theorem SL {x0 x1 x2}:Q2 x0 x1 x2=ix x0 x1 (an.dflt) fun y1=>(if(y1.2.1 == 5)=true then(ix y1.2.2.2.2.2.1 0 0 fun y2=>((eT x0 y2 x2).bind fun z1=>((pD z1.1.1).bind fun z2=>(if(z2.1.2.1.1 != 0)=true then(some ((z2.1.2.1,()),(()))) else(if z2.1.1=true then(ix y1.2.2.2.2.2.1 1 0 fun y3=>((eT x0 y3 x2).bind fun z3=>(some ((z3.1.1,()),(()))))) else(if((List.length y1.2.2.2.2.2.1:Int) == 2)=true then((je false).bind fun z4=>(some ((z4.1.1,()),(())))) else(ix y1.2.2.2.2.2.1 2 0 fun y4=>((eT x0 y4 x2).bind fun z5=>(some ((z5.1.1,()),(()))))))))))) else(if(y1.2.1 == 8)=true then(ix y1.2.2.2.2.2.1 0 0 fun y5=>((eT x0 y5 x2).bind fun z6=>((pD z6.1.1).bind fun z7=>(if(z7.1.2.1.1 != 0)=true then(some ((z7.1.2.1,()),(()))) else((je (!z7.1.1)).bind fun z8=>(some ((z8.1.1,()),(())))))))) else(if(y1.2.1 == 9)=true then(ix y1.2.2.2.2.2.1 0 0 fun y6=>((eT x0 y6 x2).bind fun z9=>((FO z9.1.1 (0,0,(⟨#[]⟩:ByteArray),())).bind fun z10=>(if(z10.1.1.1 == 1)=true then(if(decide (z10.1.1.2.1 < 0))=true then((A7 z10.1.1).bind fun z11=>(some ((z11.1.1,()),(())))) else(some ((z10.1.1,()),(())))) else(some ((z10.1.1,()),(()))))))) else(if(y1.2.1 == 10)=true then(ix y1.2.2.2.2.2.1 0 0 fun y7=>((eT x0 y7 x2).bind fun z12=>((zD z12.1.1).bind fun z13=>(if(z13.1.2.1.1 != 0)=true then(some ((z13.1.2.1,()),(()))) else((iC (ByteArray.size z13.1.1:Int)).bind fun z14=>(some ((z14.1.1,()),(())))))))) else((IG x0 x1 x2).bind fun z15=>((II y1.2.1 z15.1.1).bind fun z16=>(some ((z16.1.1,()),(()))))))))):=ay (by kernel_rfl)
theorem WX {x0 x1}:Se x0 x1=(zC x0 x1).bind fun z1=>(if(z1.1.2.2.1.1 != 0)=true then(some ((z1.1.2.2.1,()),(()))) else((iC (IntKind.i64.wrap (z1.1.1 - z1.1.2.1))).bind fun z2=>(some ((z2.1.1,()),(()))))):=ay (by kernel_rfl)
theorem U7 {x0 x1}:MZ x0 x1=(zC x0 x1).bind fun z1=>(if(z1.1.2.2.1.1 != 0)=true then(some ((z1.1.2.2.1,()),(()))) else(if(z1.1.1 == 0)=true then((iC 0).bind fun z2=>(some ((z2.1.1,()),(())))) else(if(z1.1.2.1 == 0)=true then((iC 0).bind fun z3=>(some ((z3.1.1,()),(())))) else(if(decide (z1.1.1 < 0))=true then(if(decide (z1.1.2.1 < 0))=true then(nz (IntKind.i64.wrap (0 - z1.1.2.1)) (if(decide ((IntKind.i64.wrap (0 - z1.1.1)) > (IntKind.i64.wrap (Int.tdiv 1000000000000000 (IntKind.i64.wrap (0 - z1.1.2.1))))))=true then((cA 4).bind fun z4=>(some ((z4.1.1,()),(())))) else((iC (IntKind.i64.wrap (z1.1.1*z1.1.2.1))).bind fun z5=>(some ((z5.1.1,()),(())))))) else(nz z1.1.2.1 (if(decide ((IntKind.i64.wrap (0 - z1.1.1)) > (IntKind.i64.wrap (Int.tdiv 1000000000000000 z1.1.2.1))))=true then((cA 4).bind fun z6=>(some ((z6.1.1,()),(())))) else((iC (IntKind.i64.wrap (z1.1.1*z1.1.2.1))).bind fun z7=>(some ((z7.1.1,()),(()))))))) else(if(decide (z1.1.2.1 < 0))=true then(nz (IntKind.i64.wrap (0 - z1.1.2.1)) (if(decide (z1.1.1 > (IntKind.i64.wrap (Int.tdiv 1000000000000000 (IntKind.i64.wrap (0 - z1.1.2.1))))))=true then((cA 4).bind fun z8=>(some ((z8.1.1,()),(())))) else((iC (IntKind.i64.wrap (z1.1.1*z1.1.2.1))).bind fun z9=>(some ((z9.1.1,()),(())))))) else(nz z1.1.2.1 (if(decide (z1.1.1 > (IntKind.i64.wrap (Int.tdiv 1000000000000000 z1.1.2.1))))=true then((cA 4).bind fun z10=>(some ((z10.1.1,()),(())))) else((iC (IntKind.i64.wrap (z1.1.1*z1.1.2.1))).bind fun z11=>(some ((z11.1.1,()),(()))))))))))):=ay (by kernel_rfl)
theorem WY {x0 x1}:Sf x0 x1=(zC x0 x1).bind fun z1=>(if(z1.1.2.2.1.1 != 0)=true then(some ((z1.1.2.2.1,()),(()))) else(if(z1.1.2.1 == 0)=true then((cA 1).bind fun z2=>(some ((z2.1.1,()),(())))) else(nz z1.1.2.1 ((iC (IntKind.i64.wrap (Int.tdiv z1.1.1 z1.1.2.1))).bind fun z3=>(some ((z3.1.1,()),(()))))))):=ay (by kernel_rfl)
theorem SM {x0 x1}:IJ x0 x1=(zD x0).bind fun z1=>(if(z1.1.2.1.1 != 0)=true then(some ((z1.1.2.1,()),(()))) else((zD x1).bind fun z2=>(if(z2.1.2.1.1 != 0)=true then(some ((z2.1.2.1,()),(()))) else(if(decide ((IntKind.i64.wrap ((ByteArray.size z1.1.1:Int)+(ByteArray.size z2.1.1:Int))) > 200))=true then((cA 4).bind fun z3=>(some ((z3.1.1,()),(())))) else(cats z1.1.1 z2.1.1 fun y1=>(some (((2,0,y1,()),()),(())))))))):=ay (by kernel_rfl)
theorem SN {x0 x1}:D8 x0 x1=if(x0.1 == 0)=true then(some (((x1.1,x0.2.1,x0.2.2.1,()),()),(()))) else(some ((x0,()),(()))):=ay (by kernel_rfl)
theorem SO {x0 x1}:zE x0 x1=if x0=true then(some (((-1),()),(()))) else(if x1=true then(some ((1,()),(()))) else(some ((0,()),(())))):=ay (by kernel_rfl)
theorem U8 {x0 x1}:M0 x0 x1=if(x0.1 != x1.1)=true then((zE (decide (x0.1 < x1.1)) true).bind fun z1=>(some ((z1.1.1,()),(())))) else(if(x0.2.1 != x1.2.1)=true then((zE (decide (x0.2.1 < x1.2.1)) true).bind fun z2=>(some ((z2.1.1,()),(())))) else((zE (Op.bytesLess (ByteArray.toList x0.2.2.1) (ByteArray.toList x1.2.2.1)) (!(Op.bytesLess (ByteArray.toList x0.2.2.1) (ByteArray.toList x1.2.2.1) || (ByteArray.toList x0.2.2.1 == ByteArray.toList x1.2.2.1)))).bind fun z3=>(some ((z3.1.1,()),(()))))):=ay (by kernel_rfl)
theorem WZ {x0 x1 x2}:Sg x0 x1 x2=(ed x1).bind fun z1=>(if(!z1.1.1)=true then((cA 2).bind fun z2=>(some ((z2.1.1,()),(())))) else((ed x2).bind fun z3=>(if(!z3.1.1)=true then((cA 2).bind fun z4=>(some ((z4.1.1,()),(())))) else((g8 x0 6 11).bind fun z5=>(if(!z5.1.1)=true then((cA 2).bind fun z6=>(some ((z6.1.1,()),(())))) else(if(x1.1 == 4)=true then(some ((x1,()),(()))) else(if(x2.1 == 4)=true then(some ((x2,()),(()))) else((D8 x1 x2).bind fun z7=>((D8 x2 x1).bind fun z8=>((M0 z7.1.1 z8.1.1).bind fun z9=>(if(x0 == 6)=true then((je (z9.1.1 == 0)).bind fun z10=>(some ((z10.1.1,()),(())))) else(if(x0 == 7)=true then((je (z9.1.1 != 0)).bind fun z11=>(some ((z11.1.1,()),(())))) else(if(x0 == 8)=true then((je (decide (z9.1.1 < 0))).bind fun z12=>(some ((z12.1.1,()),(())))) else(if(x0 == 9)=true then((je (decide (z9.1.1≤0))).bind fun z13=>(some ((z13.1.1,()),(())))) else(if(x0 == 10)=true then((je (decide (z9.1.1 > 0))).bind fun z14=>(some ((z14.1.1,()),(())))) else((je (decide (z9.1.1≥0))).bind fun z15=>(some ((z15.1.1,()),(()))))))))))))))))))):=ay (by kernel_rfl)
theorem W0 {x0 x1}:uB x0 x1=(m6 x0).bind fun z1=>(if(!z1.1.1)=true then((cA 3).bind fun z2=>(some ((z2.1.1,()),(())))) else((CX x1).bind fun z3=>(if(!z3.1.1)=true then((cA 3).bind fun z4=>(some ((z4.1.1,()),(())))) else((eT x0 (IntKind.i64.wrap ((List.length x0:Int) - 1)) x1).bind fun z5=>(if(z5.1.1.1 == 0)=true then((iC 0).bind fun z6=>(some ((z6.1.1,()),(())))) else(some ((z5.1.1,()),(())))))))):=ay (by kernel_rfl)
theorem SP {x0 x1 x2}:D9 x0 x1 x2=qR x0 x1 x2 0 ([]:(List ah)) ([]:(List ao)):=ay (by kernel_rfl)
theorem U9 {x0}:M1 x0=xn x0 0 ([]:(List ao)):=ay (by kernel_rfl)
theorem No {x0 x1}:xi x0 x1=(j6 x1).bind fun z1=>((M1 x0.1).bind fun z2=>((uB z1.1.1 z2.1.1).bind fun z3=>(some ((z3.1.1,()),(()))))):=ay (by kernel_rfl)
theorem SQ {x0 x1 x2}:Ea x0 x1 x2=app ([]:(List ae)) x0 32 fun y1=>(Be x1 x2 0 0 0 0 0 0 ([]:(List ae)) ([]:(List ag)) ([]:(List ao)) y1 ([]:(List ag)) ([]:(List ao))):=ay (by kernel_rfl)
theorem Np {x0 x1 x2}:CZ x0 x1 x2=(He x0 x1 x2).bind fun z1=>(if(z1.1.1 != 0)=true then(some ((([]:(List ae)),z1.1.1,0,()),(()))) else((Ea x0 x1 x2).bind fun z2=>(if(z2.1.1.2.2.2.1 != 0)=true then(app ([]:(List ae)) x0 32 fun y1=>(some ((y1,z2.1.1.2.2.2.1,z2.1.1.2.2.1,()),(())))) else(some ((z2.1.1.1,0,z2.1.1.2.2.1,()),(())))))):=ay (by kernel_rfl)
theorem SR {x0 x1 x2}:dI x0 x1 x2=if(decide (x0≥x1))=true then(some (((decide (x0≤x2)),()),(()))) else(some ((false,()),(()))):=ay (by kernel_rfl)
theorem Va {x0}:qz x0=(dI x0.1 1 52).bind fun z1=>(if z1.1.1=true then((dI x0.2.1 1 99).bind fun z2=>(some ((z2.1.1,()),(())))) else(some ((false,()),(())))):=ay (by kernel_rfl)
theorem to {x0}:qA x0=some (((x0 != x0),()),(())):=ay (by kernel_rfl)
theorem Bh {x0 x1}:ft x0 x1=(qA x0).bind fun z1=>((qA x1).bind fun z2=>(if z1.1.1=true then(if z2.1.1=true then(some ((0,()),(()))) else(some (((-1),()),(())))) else(if z2.1.1=true then(some ((1,()),(()))) else(if(decide (x0 < x1))=true then(some (((-1),()),(()))) else(if(decide (x0 > x1))=true then(some ((1,()),(()))) else(some ((0,()),(())))))))):=ay (by kernel_rfl)
theorem Ly {x0}:uC x0=oD 0 x0 (List.length x0:Int) 0:=ay (by kernel_rfl)
theorem Hp {x0 x1}:vC x0 x1=(ft x0.2.1 x1.2.1).bind fun z1=>((ft x0.1 x1.1).bind fun z2=>((uC ([z1.1.1,z2.1.1]:(List Int))).bind fun z3=>(some ((z3.1.1,()),(()))))):=ay (by kernel_rfl)
theorem SS {x0 x1}:zF x0 x1=uK x0 x1 (ByteArray.size x0:Int) 0:=ay (by kernel_rfl)
theorem vX {x0 x1}:eU x0 x1=if(decide ((ByteArray.size x0:Int)≥(ByteArray.size x1:Int)))=true then(EK x0 (ByteArray.size x1:Int) fun y1=>(some (((ByteArray.toList y1 == ByteArray.toList x1),()),(())))) else(some ((false,()),(()))):=ay (by kernel_rfl)
theorem vY {x0 x1}:pE x0 x1=(eU x0 x1).bind fun z1=>(if(!z1.1.1)=true then(some ((x0,false,()),(()))) else(jn x0 (ByteArray.size x1:Int) fun y1=>(some ((y1,true,()),(()))))):=ay (by kernel_rfl)
theorem Bi {x0 x1}:cq x0 x1=(pE x0 x1).bind fun z1=>(some (z1.1,(()))):=ay (by kernel_rfl)
theorem Cj {x0 x1}:iE x0 x1=(qg) [.val .str x0,.val .str x1] []:=ay (by kernel_rfl)
theorem Ey {x0 x1 x2}:iv x0 x1 x2=(iE x0 (⟨#[32]⟩:ByteArray)).bind fun z1=>(some ((()),((z1.1.1,x2,x1,()),()))):=ay (by kernel_rfl)
theorem Bj {x0 x1}:ee x0 x1=(eU x0 x1).bind fun z1=>(some ((z1.1.1,()),(()))):=ay (by kernel_rfl)
theorem Hq {x0 x1 x2}:qB x0 x1 x2=(iv x0 x1 x2).bind fun z1=>(lG (List.length ([(⟨#[60,62]⟩:ByteArray),(⟨#[60,61]⟩:ByteArray),(⟨#[62,61]⟩:ByteArray),(⟨#[60]⟩:ByteArray),(⟨#[62]⟩:ByteArray),(⟨#[61]⟩:ByteArray),(⟨#[38]⟩:ByteArray),(⟨#[43]⟩:ByteArray),(⟨#[45]⟩:ByteArray),(⟨#[42]⟩:ByteArray),(⟨#[47]⟩:ByteArray),(⟨#[40]⟩:ByteArray),(⟨#[41]⟩:ByteArray),(⟨#[44]⟩:ByteArray),(⟨#[58]⟩:ByteArray)]:(List ByteArray)):Int) 0 z1.2.1.1 z1.2.1.2.2.1 ([(⟨#[60,62]⟩:ByteArray),(⟨#[60,61]⟩:ByteArray),(⟨#[62,61]⟩:ByteArray),(⟨#[60]⟩:ByteArray),(⟨#[62]⟩:ByteArray),(⟨#[61]⟩:ByteArray),(⟨#[38]⟩:ByteArray),(⟨#[43]⟩:ByteArray),(⟨#[45]⟩:ByteArray),(⟨#[42]⟩:ByteArray),(⟨#[47]⟩:ByteArray),(⟨#[40]⟩:ByteArray),(⟨#[41]⟩:ByteArray),(⟨#[44]⟩:ByteArray),(⟨#[58]⟩:ByteArray)]:(List ByteArray)) z1.2.1.2.1):=ay (by kernel_rfl)
theorem Hr {x0 x1 x2 x3}:bJ x0 x1 x2 x3=(qB x1 x2 x3).bind fun z1=>(if(!(ByteArray.toList z1.1.1 == ByteArray.toList x0))=true then(some ((false,()),(z1.2.1,()))) else(jn z1.2.1.1 (ByteArray.size x0:Int) fun y1=>(some ((true,()),((y1,z1.2.1.2.1,z1.2.1.2.2.1,()),()))))):=ay (by kernel_rfl)
theorem vZ {x0 x1 x2 x3}:kU x0 x1 x2 x3=if(decide (x0 > 400))=true then(some (((-1),()),((x1,x3,true,()),()))) else(if x2=true then(some (((-1),()),((x1,x3,x2,()),()))) else((bJ (⟨#[45]⟩:ByteArray) x1 x2 x3).bind fun z1=>(if z1.1.1=true then((kU (IntKind.i64.wrap (x0+1)) z1.2.1.1 z1.2.1.2.2.1 z1.2.1.2.1).bind fun z2=>((bg (4,0,(0,0,(⟨#[]⟩:ByteArray),()),((0,0,()),false,false,()),((0,0,()),false,false,()),([z2.1.1]:(List Int)),()) z2.2.1.1 z2.2.1.2.2.1 z2.2.1.2.1).bind fun z3=>(some ((z3.1.1,()),(z3.2.1,()))))) else((qC x0 z1.2.1.1 z1.2.1.2.2.1 z1.2.1.2.1).bind fun z4=>(some ((z4.1.1,()),(z4.2.1,()))))))):=ay (by kernel_rfl)
theorem IR {x0 x1 x2 x3}:bg x0 x1 x2 x3=if x2=true then(some (((IntKind.i64.wrap ((List.length x3:Int) - 1)),()),((x1,x3,true,()),()))) else(if(!(decide ((List.length x3:Int)≥60)))=true then(app x3 ([x0]:(List aa)) 120 fun y1=>(some (((IntKind.i64.wrap ((List.length y1:Int) - 1)),()),((x1,y1,(decide ((List.length x3:Int)≥60)),()),())))) else(some (((IntKind.i64.wrap ((List.length x3:Int) - 1)),()),((x1,x3,(decide ((List.length x3:Int)≥60)),()),())))):=ay (by kernel_rfl)
theorem IT {x0 x1}:strings_Cut x0 x1=(D0) [.val .str x0,.val .str x1] []:=ay (by kernel_rfl)
theorem Ck {x0 x1 x2 x3}:bQ x0 x1 x2 x3=(bg (1,0,x0,((0,0,()),false,false,()),((0,0,()),false,false,()),([]:(List Int)),()) x1 x2 x3).bind fun z1=>(some ((z1.1.1,()),(z1.2.1,()))):=ay (by kernel_rfl)
theorem Ez {x0 x1 x2}:j7 x0 x1 x2=jn x0 1 fun y1=>(jT (⟨#[]⟩:ByteArray) y1 x0 x1 x2):=ay (by kernel_rfl)
theorem Lz {x0}:g9 x0=inb ([(⟨#[]⟩:ByteArray),(⟨#[35,68,73,86,33]⟩:ByteArray),(⟨#[35,84,89,80,69,33]⟩:ByteArray),(⟨#[35,82,69,70,33]⟩:ByteArray),(⟨#[35,79,86,69,82,33]⟩:ByteArray),(⟨#[35,67,89,67,76,69,33]⟩:ByteArray)]:(List ByteArray)) x0 (some (((List.getD ([(⟨#[]⟩:ByteArray),(⟨#[35,68,73,86,33]⟩:ByteArray),(⟨#[35,84,89,80,69,33]⟩:ByteArray),(⟨#[35,82,69,70,33]⟩:ByteArray),(⟨#[35,79,86,69,82,33]⟩:ByteArray),(⟨#[35,67,89,67,76,69,33]⟩:ByteArray)]:(List ByteArray)) (Int.toNat x0) (⟨#[]⟩:ByteArray)),()),(()))):=ay (by kernel_rfl)
theorem Vb {x0}:gm x0=some (((4,x0,(⟨#[]⟩:ByteArray),()),()),(())):=ay (by kernel_rfl)
theorem Hs {x0 x1 x2}:j8 x0 x1 x2=(iv x0 x1 x2).bind fun z1=>((iE z1.2.1.1 (⟨#[65,66,67,68,69,70,71,72,73,74,75,76,77,78,79,80,81,82,83,84,85,86,87,88,89,90,48,49,50,51,52,53,54,55,56,57,36]⟩:ByteArray)).bind fun z2=>(EK z1.2.1.1 (IntKind.i64.wrap ((ByteArray.size z1.2.1.1:Int) - (ByteArray.size z2.1.1:Int))) fun y1=>(jn z1.2.1.1 (IntKind.i64.wrap ((ByteArray.size z1.2.1.1:Int) - (ByteArray.size z2.1.1:Int))) fun y2=>(some ((y1,()),((y2,z1.2.1.2.1,z1.2.1.2.2.1,()),())))))):=ay (by kernel_rfl)
theorem PT {x0}:dj x0=if(x0.1 == 2)=true then(if(x0.2.1 == 0)=true then((zF x0.2.2.1 200).bind fun z1=>(some ((z1.1.1,()),(())))) else(some ((false,()),(())))) else(if(!(ByteArray.toList x0.2.2.1 == ByteArray.toList (⟨#[]⟩:ByteArray)))=true then(some ((false,()),(()))) else(if(x0.1 == 0)=true then(some (((x0.2.1 == 0),()),(()))) else(if(x0.1 == 1)=true then((dI x0.2.1 (-1000000000000000) 1000000000000000).bind fun z2=>(some ((z2.1.1,()),(())))) else(if(x0.1 == 3)=true then((dI x0.2.1 0 1).bind fun z3=>(some ((z3.1.1,()),(())))) else(if(x0.1 == 4)=true then((dI x0.2.1 1 5).bind fun z4=>(some ((z4.1.1,()),(())))) else(some ((false,()),(())))))))):=ay (by kernel_rfl)
theorem Bk {x0 x1}:t6 x0 x1=(DZ) [.val (.int .i64) x0,.val (.int .i64) x1] []:=ay (by kernel_rfl)
theorem PU {x0}:kF x0=(t6 x0 10).bind fun z1=>(some ((z1.1.1,()),(()))):=ay (by kernel_rfl)
theorem LA {x0}:fh x0=if(x0.1 == 1)=true then((kF x0.2.1).bind fun z1=>(some ((z1.1.1,()),(())))) else(if(x0.1 == 2)=true then(cats (⟨#[39]⟩:ByteArray) x0.2.2.1 fun y1=>(some ((y1,()),(())))) else(if(x0.1 == 3)=true then(inb ([(⟨#[70,65,76,83,69]⟩:ByteArray),(⟨#[84,82,85,69]⟩:ByteArray)]:(List ByteArray)) x0.2.1 (some (((List.getD ([(⟨#[70,65,76,83,69]⟩:ByteArray),(⟨#[84,82,85,69]⟩:ByteArray)]:(List ByteArray)) (Int.toNat x0.2.1) (⟨#[]⟩:ByteArray)),()),(())))) else(if(x0.1 == 4)=true then((g9 x0.2.1).bind fun z2=>(some ((z2.1.1,()),(())))) else(some (((⟨#[]⟩:ByteArray),()),(())))))):=ay (by kernel_rfl)
theorem Vc {x0}:mc x0=if x0=true then(some (((3,1,(⟨#[]⟩:ByteArray),()),()),(()))) else(some (((3,0,(⟨#[]⟩:ByteArray),()),()),(()))):=ay (by kernel_rfl)
theorem Cl {x0 x1 x2}:iG x0 x1 x2=(qh) [.val .str x0,.val (.int .i64) x1,.val (.int .i64) x2] []:=ay (by kernel_rfl)
theorem ST {x0}:jf x0=some (((1,x0,(⟨#[]⟩:ByteArray),()),()),(())):=ay (by kernel_rfl)
end Go.Proofs.YteaahciglahehaaGreatDoor.Abs
