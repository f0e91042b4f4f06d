/- A row's frame that keeps the world's shape beside what is laid; the cell of a variable of the library's that is a number. -/
import Derived.Handed
import Derived.HandedShaped
import Derived.LaidLaws
import Derived.Stop.LaidErr
import Derived.Shelf.LaysM
import Derived.Test.YtfffplonjaigkaaGreatDoorZM1
import Derived.SevenTiedAt
import Derived.Test.YtfffplonjaigkaaGreatDoorZA3
import Derived.Test.YtfffplonjaigkaaGreatDoorZQAD
set_option linter.unusedVariables false
open Bool renaming and_eq_true→P8,eq_false_iff→X3
open ByteArray renaming size→Q8,toList→P2
open Go.IntKind renaming i64→cj_,wrap→ci_
open Int renaming tmod→ap_,toNat→S6
open List renaming any_eq_true→az_,getD→S9,getElem?_eq_some_iff→Q9,length→Q2
open Option.some renaming inj→U9
open _root_ renaming ByteArray→P0,if_pos→P5
namespace Go.Proofs.YtfffplonjaigkaaGreatDoor.Abs
open Go Go.RowKit Go.ChangeShapes
theorem FG {W:World} (h:W.ShapedOpen Tryz.prog) : ∃ m,W.cell? ⟨0,0,none⟩=some (.int .i64 m):=Tryz.layCut.s1_3 W h
theorem nf {H:Type} {enc:TypeId×Value→H} {a:Assume} {C:Checked} {os:Os} {f:FuncId} {fn:Func} {s:ChangeSpec} {conds:List PathCond} {apart fresh handsOn again:Bool} {X:World→Array Value→Prop}
  (hX : ∀(w w':World) (args:Array Value),w.heap=w'.heap→X w args→X w' args)
  (own:ownKnob C.prog.godebug=none) (started:os.Started) (noInit:C.prog.inits.idxOf? f=none) (hfn:C.prog.funcs[f]? = some fn)
  (witness : ∃(w:World) (tape:Tape) (i:Input),w.os=os∧(w.forCall tape i).Shaped C.prog∧i.vars=[]∧Input.okWide C.prog (w.forCall tape i) .any w.heap.size f i ∧
   ((s.pre enc C.prog fn conds apart (w.forCall tape i).memory i.args∧X (w.forCall tape i).memory i.args)∧sizedMet enc C.prog fn (OpenSpec.ofChange s) apart (w.forCall tape i).memory i.args)∧a.holds C.prog (lone (Frame.enter C.prog f i.args .normal) [] (w.forCall tape i)))
  (contract : ∀(W:World) (base:Nat) (args:Array Value) (ds gs:List (DataW H)) (before:List MemPlace),
   (∀(j:Nat) t v,fn.params[j]? = some t→args[j]? = some v→Value.okWide C.prog W .any base t v) →
   DataW.Whole enc C.prog fn.params.toList s.vars apart W args.toList ds gs before →
   conds.all (PathCond.test C.prog ⟨fn.params.toList,ds,s.plain.varTypes C.prog,gs⟩)=true →
   (DataW.weightsEach C.prog (fn.params.toList++s.plain.varTypes C.prog) (ds++gs)).all (· ≤ reachBytes)=true→X W args→W.ShapedOpen C.prog →
   a.holds C.prog (lone (Frame.enter C.prog f args .normal) [] W) →
   Calls C.prog f args W fun e W' => ∃ v,e = .returned v∧s.post enc C.prog fn apart fresh handsOn again W args v W') :
  ReturnsInHanded a C os f .any (fun w args=>(s.pre enc C.prog fn conds apart w args∧X w args)∧sizedMet enc C.prog fn (OpenSpec.ofChange s) apart w args) (s.post enc C.prog fn apart fresh handsOn again):=by
 refine returnsInHanded_of_calls own started noInit witness ?_
 intro w tape i _ hsh _ hok hpre hholds
 obtain⟨_,_,_,fn',hfn',_,_,_,_,hval⟩:=hok
 have e:fn'=fn:=U9 (hfn'.symm.trans hfn)
 subst e
 obtain⟨⟨⟨ds,gs,before,hw,hc⟩,hx⟩,hz⟩:=hpre
 have hw':=DataW.Whole.of_heap (w':=w.forCall tape i) (by rfl) hw
 refine(contract (w.forCall tape i) w.heap.size i.args ds gs before hval hw' hc (hz.weights hw) (hX _ _ _ (by rfl) hx) hsh hholds).mono fun e W' ⟨v,he,hp⟩ => ?_
 subst he
 exact ChangeSpec.post_blind hp
end Go.Proofs.YtfffplonjaigkaaGreatDoor.Abs
namespace Go.Proofs.YtfffplonjaigkaaGreatDoor.Abs
open Go
theorem JQ {P:Program} (h:P.funcs.any Func.goes=false) (c:OpenClaim):false=c.goesBy P:=by
 have h1 : ∀ g:FuncId,(P.funcs[g]?).any Func.goes=false:=by
  intro g
  cases hg:P.funcs[g]? with
  | none=>rfl
  | some fn =>
   rw[Option.any_some,X3]
   intro hh
   have h2:P.funcs.any Func.goes=true:=by
    rw[Array.any_eq_true]
    obtain⟨hl,e⟩:=Array.getElem?_eq_some_iff.1 hg
    exact⟨g,hl,by rw[e]; exact hh⟩
   rw[h] at h2
   cases h2
 have h2 : ∀ f:FuncId,P.goes f=false:=by
  intro f
  unfold Program.goes
  rw[h,Bool.and_false,Bool.or_false,X3]
  intro hh
  obtain⟨g,_,hg⟩:=az_.1 hh
  rw[h1 g] at hg
  cases hg
 have h3 : ∀ s:String,P.goesFrom s=false:=by
  intro s
  unfold Program.goesFrom
  cases P.funcNamed s with
  | none=>rfl
  | some f=>exact h2 f
 have h4:P.inits.toList.any P.goes=false:=by
  rw[X3]
  intro hh
  obtain⟨g,_,hg⟩:=az_.1 hh
  rw[h2 g] at hg
  cases hg
 unfold OpenClaim.goesBy Program.goesAt
 rw[h3,Bool.false_or,h4]
 cases c.start <;> rfl
end Go.Proofs.YtfffplonjaigkaaGreatDoor.Abs
set_option linter.unusedSimpArgs false
set_option linter.unusedSectionVars false
namespace Go.Proofs.YtfffplonjaigkaaGreatDoor.Abs
open Go
section
variable {α β:Type}
theorem bk {xs pre ys:List α} {y d:α} {f:α→Option β} (h:xs=pre++y :: ys):ix xs (pre.length:Int) d f=f y:=by
 subst h
 have h1:((pre.length:Nat):Int) < ((pre++y :: ys).length:Int):=Dz
 unfold ix
 rw[P5 (nn _),P5 h1,iW]
theorem cX {xs:List α} {i:Int} {y d:α} {f:α→Option β} (h0:0≤i) (h:xs[i.toNat]? = some y):ix xs i d f=f y:=by
 have h2:=(Q9.1 h)
 obtain⟨h3,h4⟩:=h2
 have h1:i < (xs.length:Int):=by omega
 unfold ix
 rw[P5 h0,P5 h1]
 congr 1
 simp[List.getD_eq_getElem?_getD,h]
theorem iE {xs:List α} {i:Int} {k:Option β} (h0:0≤i) (h1:i < (xs.length:Int)):inb xs i k=k:=by
 unfold inb
 rw[P5 h0,P5 h1]
theorem fL {xs pre ys:List α} {y:α} {k:Option β} (h:xs=pre++y :: ys):inb xs (pre.length:Int) k=k:=by
 subst h
 exact iE (nn _) Dz
theorem NO {s:P0} {i:Int} {f:Int→Option β} (h0:0≤i) (h1:i < (s.size:Int)):da s i f=f (bt s i):=by
 unfold da
 rw[P5 h0,P5 h1]
theorem kC {a b:P0} {f:P0→Option β} (h:a.size+b.size≤9223372036854775807):cats a b f=f (a++b):=P5 h
theorem bv {a b:List α} {n:Nat} {f:List α→Option β} (h:(a.length+b.length)*n≤140737488355328):app a b n f=f (a++b):=P5 h
theorem NP {s:P0} {h:Int} {f:P0→Option β} (h0:0≤h) (h1:h≤(s.size:Int)):wP s h f=f (s.extract 0 h.toNat):=by
 unfold wP
 rw[P5 h0,P5 h1]
theorem NQ {s:P0} {l:Int} {f:P0→Option β} (h0:0≤l) (h1:l≤(s.size:Int)):gc s l f=f (s.extract l.toNat s.size):=by
 unfold gc
 rw[P5 h0,P5 h1]
theorem NR {s:P0} {l h:Int} {f:P0→Option β} (h0:0≤l) (h1:l≤h) (h2:h≤(s.size:Int)):pU s l h f=f (s.extract l.toNat h.toNat):=by
 unfold pU
 rw[P5 (by omega),P5 h2,P5 h0,P5 h1]
theorem OL {b:Int} {k:Option β} (h:b≠0):nz b k=k:=if_neg h
theorem bo {xs pre ys:List α} {y:α} (h:xs=pre++y :: ys):((pre.length:Nat):Int) < (xs.length:Int):=by rw[h]; exact Dz
theorem bV {xs pre:List α} (h:xs=pre++[]) : ¬((pre.length:Nat):Int) < (xs.length:Int):=by rw[h,List.append_nil]; exact Int.lt_irrefl _
theorem aH {xs pre ys:List α} {y:α} (h:xs=pre++y :: ys) (hl:xs.length≤9223372036854775807):IntKind.i64.wrap ((pre.length:Int)+1)=((pre++[y]).length:Int):=by
 have:=bo h
 rw[wr (by omega) (by omega),Ls]
theorem aI {xs pre ys:List α} {y:α} (h:xs=pre++y :: ys):xs=(pre++[y])++ys:=by rw[h]; simp
end
def kD (s:P0):List Int:=s.data.toList.map fun b=>(b.toNat:Int)
theorem rE (s:P0):(kD s).length=s.size:=by
 unfold kD
 rw[List.length_map,Array.length_toList]
 rfl
theorem NS {s:P0} {pre ys:List Int} {y:Int} (h:kD s=pre++y :: ys):bt s (pre.length:Int)=y:=by
 have hl:pre.length < s.size:=by rw[←rE,h]; simp
 unfold bt
 simp only[Int.toNat_natCast,hl,dite_true]
 have h1:(kD s)[pre.length]? = some y:=by rw[h]; simp
 unfold kD at h1
 rw[List.getElem?_map,Option.map_eq_some_iff] at h1
 obtain⟨b,hb,rfl⟩:=h1
 rw[Q9] at hb
 obtain⟨_,hb⟩:=hb
 rw[←hb]
 simp[ByteArray.getElem_eq_getElem_data]
@[simp] theorem OM (a b:P0):kD (a++b)=kD a++kD b:=by simp[kD]
@[simp] theorem size_append (a b:P0):(a++b).size=a.size+b.size:=ByteArray.size_append
theorem vh {β:Type} {s:P0} {pre ys:List Int} {y:Int} {f:Int→Option β} (h:kD s=pre++y :: ys):da s (pre.length:Int) f=f y:=by
 have hl:((pre.length:Nat):Int) < (s.size:Int):=by rw[←rE]; exact bo h
 rw[NO (nn _) hl,NS h]
theorem JR {s:P0} {pre ys:List Int} {y:Int} (h:kD s=pre++y :: ys):((pre.length:Nat):Int) < (s.size:Int):=by rw[←rE]; exact bo h
theorem GH {s:P0} {pre:List Int} (h:kD s=pre++[]) : ¬((pre.length:Nat):Int) < (s.size:Int):=by rw[←rE]; exact bV h
theorem DV {s:P0} {pre ys:List Int} {y:Int} (h:kD s=pre++y :: ys) (hl:s.size≤9223372036854775807):IntKind.i64.wrap ((pre.length:Int)+1)=((pre++[y]).length:Int):=aH h (by rw[rE]; exact hl)
@[simp] theorem Pd {x y:P0}:(x == y)=true↔x=y:=by
 cases x; cases y
 constructor
 ·intro h
  congr 1
  exact eq_of_beq h
 ·intro h
  cases h
  exact beq_self_eq_true (α:=Array UInt8) _
theorem od : ∀ {t:Ty} {x y:t.den},cH t=true→(bO t x y=true↔x=y)
 | .int _,x,y,_=>by simp[bO]
 | .bool,x,y,_=>by simp[bO]
 | .str,x,y,_=>by
  exact Pd
 | .unit,_,_,_=>by simp[bO]
 | .pair a b,x,y,h=>by
  simp only[cH,P8] at h
  simp only[bO,P8,od h.1,od h.2]
  exact⟨fun⟨h1,h2⟩=>Prod.ext h1 h2,fun h=>by rw[h]; exact⟨rfl,rfl⟩⟩
 | .agg t,x,y,h=>by
  simp only[cH] at h
  simp only[bO,od h]
 | .slice _ _,_,_,h=>by cases h
theorem ay {α:Type} {p:Prop} [Decidable p] {a b:α} (h:p):(if decide p=true then a else b)=a:=P5 (decide_eq_true h)
theorem aq {α:Type} {p:Prop} [Decidable p] {a b:α} (h : ¬p):(if decide p=true then a else b)=b:=if_neg (by simpa using h)
section
variable {α:Type}
theorem LC {xs:List α} {P:Int→Option ((Bool×Unit)×Unit)} {B:α→α→Option ((Bool×Unit)×Unit)→Option ((Bool×Unit)×Unit)} {d d':α}
  (hP : ∀ i,P i=if decide (i < (xs.length:Int))=true then ix xs i d fun y=>ix xs i d' fun y'=>B y y' (P (ci_ cj_ (i+1))) else some ((true,()),()))
  (hB : ∀ y∈xs,∀ k,B y y k=k) (hl:(xs.length:Int)≤9223372036854775807):P 0=some ((true,()),()):=by
 have go : ∀(ys pre:List α),xs=pre++ys→P (pre.length:Int)=some ((true,()),()):=by
  intro ys
  induction ys with
  | nil =>
   intro pre he
   rw[hP,aq (bV he)]
  | cons y ys ih =>
   intro pre he
   rw[hP,ay (bo he),bk he,bk he,hB y (by rw[he]; simp),aH he (by omega)]
   exact ih _ (aI he)
 exact go xs [] rfl
end
end Go.Proofs.YtfffplonjaigkaaGreatDoor.Abs
set_option maxRecDepth 100000
namespace Go.Proofs.YtfffplonjaigkaaGreatDoor.Abs
open Go Go.Proofs.YtfffplonjaigkaaGreatDoor
theorem MK {x0}:Lv x0=some (((decide ((Q2 x0:Int) > 1048576)),()),()):=aB
theorem HS {x0}:GF x0=some (((x0,0,()),()),()):=aB
theorem HT:GG=some (((2,([(1,([]:(List Int)),([]:(List af)),())]:(List ak)),([(⟨#[109,97,105,110]⟩,1,())]:(List an)),()),()),()):=aB
theorem Co {x0 x1}:nN x0 x1=if(decide (x1≥(Q2 x0:Int)))=true then some ((0,()),((x0,x1,()),())) else ix x0 (ci_ cj_ ((ci_ cj_ (x1+1)) - 1)) 0 fun y1=>some (((ci_ cj_ y1),()),((x0,(ci_ cj_ (x1+1)),()),())):=aB
theorem rF {x0}:fW x0=if(decide (x0.2.1≥(Q2 x0.1:Int)))=true then some ((0,()),(x0,())) else ix x0.1 (ci_ cj_ ((ci_ cj_ (x0.2.1+1)) - 1)) 0 fun y1=>some (((ci_ cj_ y1),()),((x0.1,(ci_ cj_ (x0.2.1+1)),()),())):=aB
theorem AJ {x0 x1 x2}:qz x0 x1 x2=if(decide (x0≤1))=true then some ((0,()),((x1,x2,()),())) else if(decide (x0≤256))=true then(nN x1 x2).bind fun z1=>nz x0 (some (((ap_ z1.1.1 x0),()),(z1.2.1,()))) else(nN x1 x2).bind fun z2=>(fW z2.2.1).bind fun z3=>nz x0 (some (((ap_ (ci_ cj_ ((ci_ cj_ (z2.1.1*256))+z3.1.1)) x0),()),(z3.2.1,()))):=aB
theorem zl {x0 x1}:bF x0 x1=if(decide (x0≤1))=true then some ((0,()),(x1,())) else if(decide (x0≤256))=true then(fW x1).bind fun z1=>nz x0 (some (((ap_ z1.1.1 x0),()),(z1.2.1,()))) else(fW x1).bind fun z2=>(fW z2.2.1).bind fun z3=>nz x0 (some (((ap_ (ci_ cj_ ((ci_ cj_ (z2.1.1*256))+z3.1.1)) x0),()),(z3.2.1,()))):=aB
theorem LD {x0 x1 x2}:jM x0 x1 x2=if(decide (x0≥x1))=true then some (((decide (x0≤x2)),()),()) else some ((false,()),()):=aB
theorem FH {x0}:oT x0=mu x0 0:=aB
theorem zm {x0 x1 x2 x3}:gd x0 x1 x2 x3=ia x0 x1 x2 x3:=aB
theorem FI {x0 x1 x2 x3 x4}:cO x0 x1 x2 x3 x4=(gd x1 x2 x3 x4).bind fun z1=>if z1.2.1.2.2.1=true then some ((false,()),(z1.2.1,())) else if(decide ((ci_ cj_ (z1.2.1.2.1+(Q8 x0:Int))) > (Q8 z1.2.1.1:Int)))=true then some ((false,()),(z1.2.1,())) else pU z1.2.1.1 z1.2.1.2.1 (ci_ cj_ (z1.2.1.2.1+(Q8 x0:Int))) fun y1=>if(! (P2 y1 == P2 x0))=true then some ((false,()),(z1.2.1,())) else some ((true,()),((z1.2.1.1,(ci_ cj_ (z1.2.1.2.1+(Q8 x0:Int))),z1.2.1.2.2.1,z1.2.1.2.2.2.1,()),())):=aB
theorem vi {x0 x1 x2 x3 x4}:dt x0 x1 x2 x3 x4=if x3=true then some ((0,()),((x1,x2,x3,x4,()),())) else if(x0 == 5)=true then(pY x1 x2 x3 x4).bind fun z1=>some ((z1.1.1,()),(z1.2.1,())) else(dt (ci_ cj_ (x0+1)) x1 x2 x3 x4).bind fun z2=>cz x0 z2.1.1 z2.2.1.1 z2.2.1.2.1 z2.2.1.2.2.1 z2.2.1.2.2.2.1:=aB
theorem FJ {x0}:fa x0=if(x0.1 == 0)=true then if(x0.2.1 == 0)=true then some (((P2 x0.2.2.1 == P2 ⟨#[]⟩),()),()) else some ((false,()),()) else if(x0.1 == 1)=true then(jM x0.2.1 (-1000000000000000) 1000000000000000).bind fun z1=>if z1.1.1=true then some (((P2 x0.2.2.1 == P2 ⟨#[]⟩),()),()) else some ((false,()),()) else if(x0.1 == 2)=true then if(x0.2.1 == 0)=true then(oT x0.2.2.1).bind fun z2=>some ((z2.1.1,()),()) else some ((false,()),()) else if(x0.1 == 3)=true then(jM x0.2.1 0 1).bind fun z3=>if z3.1.1=true then some (((P2 x0.2.2.1 == P2 ⟨#[]⟩),()),()) else some ((false,()),()) else if(x0.1 == 4)=true then(jM x0.2.1 1 5).bind fun z4=>if z4.1.1=true then some (((P2 x0.2.2.1 == P2 ⟨#[]⟩),()),()) else some ((false,()),()) else some ((false,()),()):=aB
theorem JS {x0}:dg x0=(jM x0.1 1 52).bind fun z1=>if z1.1.1=true then(jM x0.2.1 1 99).bind fun z2=>some ((z2.1.1,()),()) else some ((false,()),()):=aB
theorem HU {x0}:Az x0=(dg x0.1).bind fun z1=>if z1.1.1=true then(dg x0.2.1).bind fun z2=>if z2.1.1=true then if(decide (x0.1.1≤x0.2.1.1))=true then some (((decide (x0.1.2.1≤x0.2.1.2.1)),()),()) else some ((false,()),()) else some ((false,()),()) else some ((false,()),()):=aB
theorem HV {x0 x1}:AA x0 x1=if(x0 == 1)=true then if(x0 == 1)=true then if(decide (x1≥1))=true then some (((decide (x1≤10)),()),()) else some ((false,()),()) else if(x0 == 5)=true then if(x1 == 2)=true then some ((true,()),()) else some (((x1 == 3),()),()) else if(x0 == 8)=true then if(x0 == 8)=true then some (((x1 == 1),()),()) else some ((false,()),()) else if(x0 == 9)=true then if(x0 == 9)=true then some (((x1 == 1),()),()) else some ((false,()),()) else if(x0 == 10)=true then some (((x1 == 1),()),()) else some ((false,()),()) else if(x0 == 2)=true then if(x0 == 2)=true then if(decide (x1≥1))=true then some (((decide (x1≤10)),()),()) else some ((false,()),()) else if(x0 == 5)=true then if(x1 == 2)=true then some ((true,()),()) else some (((x1 == 3),()),()) else if(x0 == 8)=true then if(x0 == 8)=true then some (((x1 == 1),()),()) else some ((false,()),()) else if(x0 == 9)=true then if(x0 == 9)=true then some (((x1 == 1),()),()) else some ((false,()),()) else if(x0 == 10)=true then some (((x1 == 1),()),()) else some ((false,()),()) else if(x0 == 3)=true then if(x0 == 3)=true then if(decide (x1≥1))=true then some (((decide (x1≤10)),()),()) else some ((false,()),()) else if(x0 == 5)=true then if(x1 == 2)=true then some ((true,()),()) else some (((x1 == 3),()),()) else if(x0 == 8)=true then if(x0 == 8)=true then some (((x1 == 1),()),()) else some ((false,()),()) else if(x0 == 9)=true then if(x0 == 9)=true then some (((x1 == 1),()),()) else some ((false,()),()) else if(x0 == 10)=true then some (((x1 == 1),()),()) else some ((false,()),()) else if(x0 == 4)=true then if(x0 == 4)=true then if(decide (x1≥1))=true then some (((decide (x1≤10)),()),()) else some ((false,()),()) else if(x0 == 5)=true then if(x1 == 2)=true then some ((true,()),()) else some (((x1 == 3),()),()) else if(x0 == 8)=true then if(x0 == 8)=true then some (((x1 == 1),()),()) else some ((false,()),()) else if(x0 == 9)=true then if(x0 == 9)=true then some (((x1 == 1),()),()) else some ((false,()),()) else if(x0 == 10)=true then some (((x1 == 1),()),()) else some ((false,()),()) else if(x0 == 6)=true then if(x0 == 6)=true then if(decide (x1≥1))=true then some (((decide (x1≤10)),()),()) else some ((false,()),()) else if(x0 == 5)=true then if(x1 == 2)=true then some ((true,()),()) else some (((x1 == 3),()),()) else if(x0 == 8)=true then if(x0 == 8)=true then some (((x1 == 1),()),()) else some ((false,()),()) else if(x0 == 9)=true then if(x0 == 9)=true then some (((x1 == 1),()),()) else some ((false,()),()) else if(x0 == 10)=true then some (((x1 == 1),()),()) else some ((false,()),()) else if(x0 == 7)=true then if(decide (x1≥1))=true then some (((decide (x1≤10)),()),()) else some ((false,()),()) else if(x0 == 5)=true then if(x1 == 2)=true then some ((true,()),()) else some (((x1 == 3),()),()) else if(x0 == 8)=true then if(x0 == 8)=true then some (((x1 == 1),()),()) else some ((false,()),()) else if(x0 == 9)=true then if(x0 == 9)=true then some (((x1 == 1),()),()) else some ((false,()),()) else if(x0 == 10)=true then some (((x1 == 1),()),()) else some ((false,()),()):=aB
theorem DW {x0}:pX x0=if(x0.1 == 1)=true then if(x0.2.1 == 0)=true then if(bO bq x0.2.2.2.1 ((0,0,()),false,false,()))=true then if(bO bq x0.2.2.2.2.1 ((0,0,()),false,false,()))=true then if((Q2 x0.2.2.2.2.2.1:Int) == 0)=true then(fa x0.2.2.1).bind fun z1=>if z1.1.1=true then if(x0.2.2.1.1 != 0)=true then if(x0.2.2.1.1 != 1)=true then some ((true,()),()) else some (((decide (x0.2.2.1.2.1≥0)),()),()) else some ((false,()),()) else some ((false,()),()) else some ((false,()),()) else some ((false,()),()) else some ((false,()),()) else some ((false,()),()) else if(x0.1 == 2)=true then if(x0.2.1 == 0)=true then if(bO bj x0.2.2.1 (0,0,⟨#[]⟩,()))=true then if(bO bq x0.2.2.2.2.1 ((0,0,()),false,false,()))=true then if((Q2 x0.2.2.2.2.2.1:Int) == 0)=true then(dg x0.2.2.2.1.1).bind fun z2=>some ((z2.1.1,()),()) else some ((false,()),()) else some ((false,()),()) else some ((false,()),()) else some ((false,()),()) else if(x0.1 == 3)=true then if(x0.2.1 == 0)=true then if(bO bj x0.2.2.1 (0,0,⟨#[]⟩,()))=true then if((Q2 x0.2.2.2.2.2.1:Int) == 0)=true then(Az (x0.2.2.2.1.1,x0.2.2.2.2.1.1,())).bind fun z3=>some ((z3.1.1,()),()) else some ((false,()),()) else some ((false,()),()) else some ((false,()),()) else if(x0.1 == 4)=true then if(x0.2.1 == 0)=true then if(bO bj x0.2.2.1 (0,0,⟨#[]⟩,()))=true then if(bO bq x0.2.2.2.1 ((0,0,()),false,false,()))=true then if(bO bq x0.2.2.2.2.1 ((0,0,()),false,false,()))=true then some ((((Q2 x0.2.2.2.2.2.1:Int) == 1),()),()) else some ((false,()),()) else some ((false,()),()) else some ((false,()),()) else some ((false,()),()) else if(x0.1 == 5)=true then(jM x0.2.1 1 11).bind fun z4=>if z4.1.1=true then if(bO bj x0.2.2.1 (0,0,⟨#[]⟩,()))=true then if(bO bq x0.2.2.2.1 ((0,0,()),false,false,()))=true then if(bO bq x0.2.2.2.2.1 ((0,0,()),false,false,()))=true then some ((((Q2 x0.2.2.2.2.2.1:Int) == 2),()),()) else some ((false,()),()) else some ((false,()),()) else some ((false,()),()) else some ((false,()),()) else if(x0.1 == 6)=true then(AA x0.2.1 (Q2 x0.2.2.2.2.2.1:Int)).bind fun z5=>if z5.1.1=true then if(bO bj x0.2.2.1 (0,0,⟨#[]⟩,()))=true then if(bO bq x0.2.2.2.1 ((0,0,()),false,false,()))=true then some (((bO bq x0.2.2.2.2.1 ((0,0,()),false,false,())),()),()) else some ((false,()),()) else some ((false,()),()) else some ((false,()),()) else some ((false,()),()):=aB
theorem DX {x0 x1 x2 x3 x4}:bM x0 x1 x2 x3 x4=app x4 ([x0]:(List ab)) 120 fun y1=>if(decide ((Q2 y1:Int) > 60))=true then some (((ci_ cj_ ((Q2 y1:Int) - 1)),()),((x1,x2,true,y1,()),())) else(pX x0).bind fun z1=>if(!z1.1.1)=true then some (((ci_ cj_ ((Q2 y1:Int) - 1)),()),((x1,x2,true,y1,()),())) else some (((ci_ cj_ ((Q2 y1:Int) - 1)),()),((x1,x2,x3,y1,()),())):=aB
theorem Cp {x0 x1 x2 x3}:sT x0 x1 x2 x3=gW ⟨#[]⟩ x0 x1 x2 x3:=aB
theorem HW {x0}:rs x0=inb ([⟨#[]⟩,⟨#[35,68,73,86,33]⟩,⟨#[35,84,89,80,69,33]⟩,⟨#[35,82,69,70,33]⟩,⟨#[35,79,86,69,82,33]⟩,⟨#[35,67,89,67,76,69,33]⟩]:(List P0)) x0 (some (((S9 ([⟨#[]⟩,⟨#[35,68,73,86,33]⟩,⟨#[35,84,89,80,69,33]⟩,⟨#[35,82,69,70,33]⟩,⟨#[35,79,86,69,82,33]⟩,⟨#[35,67,89,67,76,69,33]⟩]:(List P0)) (S6 x0) ⟨#[]⟩),()),())):=aB
theorem FK {x0}:xB x0=some (((4,x0,⟨#[]⟩,()),()),()):=aB
theorem Cq {x0 x1 x2 x3}:i7 x0 x1 x2 x3=cT x1 x0 x1 x2 x3:=aB
theorem LF {x0}:CT x0=inb ([⟨#[]⟩,⟨#[83,85,77]⟩,⟨#[77,73,78]⟩,⟨#[77,65,88]⟩,⟨#[67,79,85,78,84]⟩,⟨#[73,70]⟩,⟨#[65,78,68]⟩,⟨#[79,82]⟩,⟨#[78,79,84]⟩,⟨#[65,66,83]⟩,⟨#[76,69,78]⟩]:(List P0)) x0 (some (((S9 ([⟨#[]⟩,⟨#[83,85,77]⟩,⟨#[77,73,78]⟩,⟨#[77,65,88]⟩,⟨#[67,79,85,78,84]⟩,⟨#[73,70]⟩,⟨#[65,78,68]⟩,⟨#[79,82]⟩,⟨#[78,79,84]⟩,⟨#[65,66,83]⟩,⟨#[76,69,78]⟩]:(List P0)) (S6 x0) ⟨#[]⟩),()),())):=aB
theorem FL {x0}:oU x0=(jM x0 1 52).bind fun z1=>if(!z1.1.1)=true then some ((⟨#[]⟩,()),()) else qB x0 ⟨#[]⟩:=aB
theorem FM {x0}:lZ x0=qC x0 1:=aB
theorem JT {x0 x1}:cq x0 x1=if(decide ((Q8 x0:Int) < 1))=true then some ((0,false,()),()) else if(decide ((Q8 x0:Int) > x1))=true then some ((0,false,()),()) else da x0 0 fun y1=>if(y1 == 48)=true then if(decide ((Q8 x0:Int) > 1))=true then some ((0,false,()),()) else kB x0 0 0 else kB x0 0 0:=aB
theorem Cr {x0}:i8 x0=if(decide ((Q8 x0:Int) > 0))=true then da x0 0 fun y1=>if(y1 == 36)=true then gc x0 1 fun y2=>fx y2 0 0 0 false false 0 0 true false else fx x0 0 0 0 false false 0 0 false false else fx x0 0 0 0 false false 0 0 false false:=aB
theorem DY {x0 x1 x2 x3}:mM x0 x1 x2 x3=(gd x0 x1 x2 x3).bind fun z1=>(i7 z1.2.1.1 z1.2.1.2.1 z1.2.1.2.2.1 z1.2.1.2.2.2.1).bind fun z2=>(i8 z2.1.1).bind fun z3=>if z3.1.2.1=true then(cO ⟨#[58]⟩ z2.2.1.1 z2.2.1.2.1 z2.2.1.2.2.1 z2.2.1.2.2.2.1).bind fun z4=>if z4.1.1=true then(gd z4.2.1.1 z4.2.1.2.1 z4.2.1.2.2.1 z4.2.1.2.2.2.1).bind fun z5=>(i7 z5.2.1.1 z5.2.1.2.1 z5.2.1.2.2.1 z5.2.1.2.2.2.1).bind fun z6=>(i8 z6.1.1).bind fun z7=>if(!z7.1.2.1)=true then some ((0,()),((z6.2.1.1,z6.2.1.2.1,true,z6.2.1.2.2.2.1,()),())) else(bM (3,0,(0,0,⟨#[]⟩,()),z3.1.1,z7.1.1,([]:(List Int)),()) z6.2.1.1 z6.2.1.2.1 z6.2.1.2.2.1 z6.2.1.2.2.2.1).bind fun z8=>some ((z8.1.1,()),(z8.2.1,())) else(dt 1 z4.2.1.1 z1.2.1.2.1 z4.2.1.2.2.1 z4.2.1.2.2.2.1).bind fun z9=>some ((z9.1.1,()),(z9.2.1,())) else(dt 1 z2.2.1.1 z1.2.1.2.1 z2.2.1.2.2.1 z2.2.1.2.2.2.1).bind fun z10=>some ((z10.1.1,()),(z10.2.1,())):=aB
theorem Cs {x0 x1 x2 x3 x4}:sU x0 x1 x2 x3 x4=nd x0 x1 x2 x3 x4 ([]:(List Int)):=aB
theorem Ct {x0}:nO x0=if(P2 x0 == P2 ⟨#[]⟩)=true then some (((0,0,⟨#[]⟩,()),true,()),()) else da x0 0 fun y1=>if(y1 == 39)=true then gc x0 1 fun y2=>aE 0 0 ⟨#[]⟩ 2 0 y2 else if(P2 x0 == P2 ⟨#[84,82,85,69]⟩)=true then if(P2 x0 == P2 ⟨#[84,82,85,69]⟩)=true then if(P2 x0 == P2 ⟨#[84,82,85,69]⟩)=true then aE 0 0 ⟨#[]⟩ 3 1 ⟨#[]⟩ else aE 0 0 ⟨#[]⟩ 3 0 ⟨#[]⟩ else da x0 0 fun y3=>if(y3 == 35)=true then dw x0 1 0 0 ⟨#[]⟩ 4 0 ⟨#[]⟩ else da x0 0 fun y4=>if(y4 == 45)=true then gc x0 1 fun y5=>(cq y5 16).bind fun z1=>if(!z1.1.2.1)=true then some (((0,0,⟨#[]⟩,()),false,()),()) else if(y4 == 45)=true then if(z1.1.1 == 0)=true then some (((0,0,⟨#[]⟩,()),false,()),()) else if(y4 == 45)=true then aE 0 0 ⟨#[]⟩ 1 (ci_ cj_ (0 - z1.1.1)) ⟨#[]⟩ else aE 0 0 ⟨#[]⟩ 1 z1.1.1 ⟨#[]⟩ else if(y4 == 45)=true then aE 0 0 ⟨#[]⟩ 1 (ci_ cj_ (0 - z1.1.1)) ⟨#[]⟩ else aE 0 0 ⟨#[]⟩ 1 z1.1.1 ⟨#[]⟩ else(cq x0 16).bind fun z2=>if(!z2.1.2.1)=true then some (((0,0,⟨#[]⟩,()),false,()),()) else if(y4 == 45)=true then if(z2.1.1 == 0)=true then some (((0,0,⟨#[]⟩,()),false,()),()) else if(y4 == 45)=true then aE 0 0 ⟨#[]⟩ 1 (ci_ cj_ (0 - z2.1.1)) ⟨#[]⟩ else aE 0 0 ⟨#[]⟩ 1 z2.1.1 ⟨#[]⟩ else if(y4 == 45)=true then aE 0 0 ⟨#[]⟩ 1 (ci_ cj_ (0 - z2.1.1)) ⟨#[]⟩ else aE 0 0 ⟨#[]⟩ 1 z2.1.1 ⟨#[]⟩ else if(P2 x0 == P2 ⟨#[70,65,76,83,69]⟩)=true then if(P2 x0 == P2 ⟨#[84,82,85,69]⟩)=true then aE 0 0 ⟨#[]⟩ 3 1 ⟨#[]⟩ else aE 0 0 ⟨#[]⟩ 3 0 ⟨#[]⟩ else da x0 0 fun y6=>if(y6 == 35)=true then dw x0 1 0 0 ⟨#[]⟩ 4 0 ⟨#[]⟩ else da x0 0 fun y7=>if(y7 == 45)=true then gc x0 1 fun y8=>(cq y8 16).bind fun z3=>if(!z3.1.2.1)=true then some (((0,0,⟨#[]⟩,()),false,()),()) else if(y7 == 45)=true then if(z3.1.1 == 0)=true then some (((0,0,⟨#[]⟩,()),false,()),()) else if(y7 == 45)=true then aE 0 0 ⟨#[]⟩ 1 (ci_ cj_ (0 - z3.1.1)) ⟨#[]⟩ else aE 0 0 ⟨#[]⟩ 1 z3.1.1 ⟨#[]⟩ else if(y7 == 45)=true then aE 0 0 ⟨#[]⟩ 1 (ci_ cj_ (0 - z3.1.1)) ⟨#[]⟩ else aE 0 0 ⟨#[]⟩ 1 z3.1.1 ⟨#[]⟩ else(cq x0 16).bind fun z4=>if(!z4.1.2.1)=true then some (((0,0,⟨#[]⟩,()),false,()),()) else if(y7 == 45)=true then if(z4.1.1 == 0)=true then some (((0,0,⟨#[]⟩,()),false,()),()) else if(y7 == 45)=true then aE 0 0 ⟨#[]⟩ 1 (ci_ cj_ (0 - z4.1.1)) ⟨#[]⟩ else aE 0 0 ⟨#[]⟩ 1 z4.1.1 ⟨#[]⟩ else if(y7 == 45)=true then aE 0 0 ⟨#[]⟩ 1 (ci_ cj_ (0 - z4.1.1)) ⟨#[]⟩ else aE 0 0 ⟨#[]⟩ 1 z4.1.1 ⟨#[]⟩:=aB
theorem DZ {x0 x1 x2 x3}:pY x0 x1 x2 x3=(cO ⟨#[45]⟩ x0 x1 x2 x3).bind fun z1=>if z1.1.1=true then(dt 5 z1.2.1.1 z1.2.1.2.1 z1.2.1.2.2.1 z1.2.1.2.2.2.1).bind fun z2=>(bM (4,0,(0,0,⟨#[]⟩,()),((0,0,()),false,false,()),((0,0,()),false,false,()),([z2.1.1]:(List Int)),()) z2.2.1.1 z2.2.1.2.1 z2.2.1.2.2.1 z2.2.1.2.2.2.1).bind fun z3=>some ((z3.1.1,()),(z3.2.1,())) else(cO ⟨#[40]⟩ z1.2.1.1 z1.2.1.2.1 z1.2.1.2.2.1 z1.2.1.2.2.2.1).bind fun z4=>if z4.1.1=true then(dt 1 z4.2.1.1 z4.2.1.2.1 z4.2.1.2.2.1 z4.2.1.2.2.2.1).bind fun z5=>(cO ⟨#[41]⟩ z5.2.1.1 z5.2.1.2.1 z5.2.1.2.2.1 z5.2.1.2.2.2.1).bind fun z6=>if(!z6.1.1)=true then some ((z5.1.1,()),((z6.2.1.1,z6.2.1.2.1,true,z6.2.1.2.2.2.1,()),())) else some ((z5.1.1,()),(z6.2.1,())) else(cO ⟨#[34]⟩ z4.2.1.1 z4.2.1.2.1 z4.2.1.2.2.1 z4.2.1.2.2.2.1).bind fun z7=>if z7.1.1=true then(sT z7.2.1.1 z7.2.1.2.1 z7.2.1.2.2.1 z7.2.1.2.2.2.1).bind fun z8=>some ((z8.1.1,()),(z8.2.1,())) else(cO ⟨#[35]⟩ z7.2.1.1 z7.2.1.2.1 z7.2.1.2.2.1 z7.2.1.2.2.2.1).bind fun z9=>if z9.1.1=true then fy 1 z9.2.1.1 z9.2.1.2.1 z9.2.1.2.2.1 z9.2.1.2.2.2.1 else(i7 z9.2.1.1 z9.2.1.2.1 z9.2.1.2.2.1 z9.2.1.2.2.2.1).bind fun z10=>dF z10.1.1 1 z10.2.1.1 z10.2.1.2.1 z10.2.1.2.2.1 z10.2.1.2.2.2.1:=aB
theorem FN {x0}:oV x0=if(decide (x0≥6))=true then some ((1,()),()) else if(x0 == 5)=true then some ((2,()),()) else if(decide (x0≥3))=true then some ((4,()),()) else some ((3,()),()):=aB
theorem HX {x0}:rt x0=inb ([⟨#[]⟩,⟨#[43]⟩,⟨#[45]⟩,⟨#[42]⟩,⟨#[47]⟩,⟨#[38]⟩,⟨#[61]⟩,⟨#[60,62]⟩,⟨#[60]⟩,⟨#[60,61]⟩,⟨#[62]⟩,⟨#[62,61]⟩]:(List P0)) x0 (some (((S9 ([⟨#[]⟩,⟨#[43]⟩,⟨#[45]⟩,⟨#[42]⟩,⟨#[47]⟩,⟨#[38]⟩,⟨#[61]⟩,⟨#[60,62]⟩,⟨#[60]⟩,⟨#[60,61]⟩,⟨#[62]⟩,⟨#[62,61]⟩]:(List P0)) (S6 x0) ⟨#[]⟩),()),())):=aB
theorem FO {x0 x1 x2 x3 x4}:xC x0 x1 x2 x3 x4=mv x0 0 x1 x2 x3 x4 ([7,9,11,6,8,10,1,2,3,4,5]:(List Int)):=aB
theorem HY {x0 x1}:ru x0 x1=ix x0 x1 (ah.dflt) fun y1=>nU x0 x1 (ci_ cj_ (x1 - 1)) (ci_ cj_ ((Q2 y1.2.2.2.2.2.1:Int) - 1)):=aB
theorem HZ {x0 x1}:rx x0 x1=nV x0 x1 0 0:=aB
theorem Cu {x0}:nQ x0=if(decide ((Q2 x0:Int) < 1))=true then some ((false,()),()) else if(decide ((Q2 x0:Int) > 60))=true then some ((false,()),()) else dk x0 0:=aB
theorem zn {x0}:oW x0=(oT x0).bind fun z1=>if(!z1.1.1)=true then some ((([]:(List ab)),false,()),()) else(dt 1 x0 0 false ([]:(List ab))).bind fun z2=>(gd z2.2.1.1 z2.2.1.2.1 z2.2.1.2.2.1 z2.2.1.2.2.2.1).bind fun z3=>if z3.2.1.2.2.1=true then some ((([]:(List ab)),false,()),()) else if(decide (z3.2.1.2.1 < (Q8 x0:Int)))=true then some ((([]:(List ab)),false,()),()) else(nQ z3.2.1.2.2.2.1).bind fun z4=>if(!z4.1.1)=true then some ((([]:(List ab)),false,()),()) else some ((z3.2.1.2.2.2.1,true,()),()):=aB
theorem FP {x0}:xD x0=jz x0 ⟨#[34]⟩ 0:=aB
theorem BN {x0}:jx x0=if(decide (x0 < 0))=true then(jx (ci_ cj_ (0 - x0))).bind fun z1=>cats ⟨#[45]⟩ z1.1.1 fun y1=>some ((y1,()),()) else mQ x0 ⟨#[]⟩:=aB
theorem H0 {x0}:AB x0=if(x0 == 1)=true then some ((⟨#[84,82,85,69]⟩,()),()) else some ((⟨#[70,65,76,83,69]⟩,()),()):=aB
theorem Cv {x0}:fH x0=(fa x0).bind fun z1=>if(!z1.1.1)=true then some ((⟨#[]⟩,()),()) else if(x0.1 == 1)=true then(jx x0.2.1).bind fun z2=>some ((z2.1.1,()),()) else if(x0.1 == 2)=true then cats ⟨#[39]⟩ x0.2.2.1 fun y1=>some ((y1,()),()) else if(x0.1 == 3)=true then(AB x0.2.1).bind fun z3=>some ((z3.1.1,()),()) else if(x0.1 == 4)=true then(rs x0.2.1).bind fun z4=>some ((z4.1.1,()),()) else some ((⟨#[]⟩,()),()):=aB
theorem Cw {x0}:lh x0=(dg x0.1).bind fun z1=>if(!z1.1.1)=true then some ((⟨#[]⟩,()),()) else(oU x0.1.1).bind fun z2=>if x0.2.1=true then cats ⟨#[36]⟩ z2.1.1 fun y1=>if x0.2.2.1=true then cats y1 ⟨#[36]⟩ fun y2=>(jx x0.1.2.1).bind fun z3=>cats y2 z3.1.1 fun y3=>some ((y3,()),()) else(jx x0.1.2.1).bind fun z4=>cats y1 z4.1.1 fun y4=>some ((y4,()),()) else if x0.2.2.1=true then cats z2.1.1 ⟨#[36]⟩ fun y5=>(jx x0.1.2.1).bind fun z5=>cats y5 z5.1.1 fun y6=>some ((y6,()),()) else(jx x0.1.2.1).bind fun z6=>cats z2.1.1 z6.1.1 fun y7=>some ((y7,()),()):=aB
theorem H1 {x0 x1 x2}:ja x0 x1 x2=ix x0 x1 (ah.dflt) fun y1=>if(y1.1 == 1)=true then if(y1.2.2.1.1 == 2)=true then(xD y1.2.2.1.2.2.1).bind fun z1=>some ((z1.1.1,()),()) else(fH y1.2.2.1).bind fun z2=>some ((z2.1.1,()),()) else if(y1.1 == 2)=true then(lh y1.2.2.2.1).bind fun z3=>some ((z3.1.1,()),()) else if(y1.1 == 3)=true then(lh y1.2.2.2.1).bind fun z4=>cats z4.1.1 ⟨#[58]⟩ fun y2=>(lh y1.2.2.2.2.1).bind fun z5=>cats y2 z5.1.1 fun y3=>some ((y3,()),()) else if(y1.1 == 4)=true then ix y1.2.2.2.2.2.1 0 0 fun y4=>(ja x0 y4 5).bind fun z6=>cats ⟨#[45]⟩ z6.1.1 fun y5=>some ((y5,()),()) else if(y1.1 == 5)=true then(oV y1.2.1).bind fun z7=>ix y1.2.2.2.2.2.1 0 0 fun y6=>(ja x0 y6 z7.1.1).bind fun z8=>(rt y1.2.1).bind fun z9=>cats z8.1.1 z9.1.1 fun y7=>ix y1.2.2.2.2.2.1 1 0 fun y8=>(ja x0 y8 (ci_ cj_ (z7.1.1+1))).bind fun z10=>cats y7 z10.1.1 fun y9=>if(decide (z7.1.1 < x2))=true then cats ⟨#[40]⟩ y9 fun y10=>cats y10 ⟨#[41]⟩ fun y11=>some ((y11,()),()) else some ((y9,()),()) else(CT y1.2.1).bind fun z11=>cats z11.1.1 ⟨#[40]⟩ fun y12=>jA x0 y12 0 y1.1 y1.2.1 y1.2.2.1 y1.2.2.2.1 y1.2.2.2.2.1 y1.2.2.2.2.2.1:=aB
theorem zo {x0}:oX x0=(nQ x0).bind fun z1=>if(!z1.1.1)=true then some ((⟨#[]⟩,()),()) else(ja x0 (ci_ cj_ ((Q2 x0:Int) - 1)) 0).bind fun z2=>if(decide ((Q8 z2.1.1:Int) > 200))=true then some ((⟨#[]⟩,()),()) else some ((z2.1.1,()),()):=aB
theorem D0 {x0}:u4 x0=if(decide ((Q8 x0:Int) > 0))=true then da x0 0 fun y1=>if(y1 == 45)=true then gc x0 1 fun y2=>if(P2 y2 == P2 ⟨#[]⟩)=true then some (((0,0,⟨#[]⟩,()),false,()),()) else gh y2 (y1 == 45) 0 0 ⟨#[]⟩ else if(P2 x0 == P2 ⟨#[]⟩)=true then some (((0,0,⟨#[]⟩,()),false,()),()) else gh x0 (y1 == 45) 0 0 ⟨#[]⟩ else if(P2 x0 == P2 ⟨#[]⟩)=true then some (((0,0,⟨#[]⟩,()),false,()),()) else gh x0 false 0 0 ⟨#[]⟩:=aB
end Go.Proofs.YtfffplonjaigkaaGreatDoor.Abs
namespace Go.Proofs.YtfffplonjaigkaaGreatDoor.Abs
open Go Go.Proofs.YtfffplonjaigkaaGreatDoor
theorem FQ {x0}:oY x0=(oT x0).bind fun z1=>if(!z1.1.1)=true then some ((⟨#[]⟩,false,()),()) else if(P2 x0 == P2 ⟨#[]⟩)=true then some ((⟨#[]⟩,true,()),()) else da x0 0 fun y1=>if(y1 == 61)=true then gc x0 1 fun y2=>(oW y2).bind fun z2=>(oX z2.1.1).bind fun z3=>if(!z2.1.2.1)=true then some ((⟨#[]⟩,false,()),()) else if(P2 z3.1.1 == P2 ⟨#[]⟩)=true then some ((⟨#[]⟩,false,()),()) else if(decide ((ci_ cj_ ((Q8 z3.1.1:Int)+1)) > 200))=true then some ((⟨#[]⟩,false,()),()) else cats ⟨#[61]⟩ z3.1.1 fun y3=>some ((y3,true,()),()) else(u4 x0).bind fun z4=>if z4.1.2.1=true then(fH z4.1.1).bind fun z5=>some ((z5.1.1,true,()),()) else(nO x0).bind fun z6=>if(!z6.1.2.1)=true then(fH (2,0,x0,())).bind fun z7=>if(decide ((Q8 z7.1.1:Int) > 200))=true then some ((⟨#[]⟩,false,()),()) else some ((z7.1.1,true,()),()) else(fH z6.1.1).bind fun z8=>if(decide ((Q8 z8.1.1:Int) > 200))=true then some ((⟨#[]⟩,false,()),()) else some ((z8.1.1,true,()),()):=aB
theorem FR {x0 x1}:fX x0 x1=if(decide (x0.2.1 < x1.2.1))=true then some ((true,()),()) else if(x0.2.1 == x1.2.1)=true then some (((decide (x0.1 < x1.1)),()),()) else some ((false,()),()):=aB
theorem FS {x0}:fb x0=if(decide ((Q2 x0:Int) > 120))=true then some ((false,()),()) else jB x0 0:=aB
theorem FT {x0 x1}:fY x0 x1=mw x1 0 x0.1 x0.2.1 x0.2.2.1:=aB
theorem FU {x0}:sV x0=if(decide ((Q8 x0:Int) < 1))=true then some ((false,()),()) else if(decide ((Q8 x0:Int) > 12))=true then some ((false,()),()) else my x0 0:=aB
theorem JU {x0}:mN x0=(jM x0.1 2 1000000000).bind fun z1=>if(!z1.1.1)=true then some ((false,()),()) else if(decide ((Q2 x0.2.1:Int) < 1))=true then some ((false,()),()) else if(decide ((Q2 x0.2.1:Int) > 40))=true then some ((false,()),()) else if(decide ((Q2 x0.2.2.1:Int) < 1))=true then some ((false,()),()) else if(decide ((Q2 x0.2.2.1:Int) > 8))=true then some ((false,()),()) else eP 0 x0.1 x0.2.1 x0.2.2.1:=aB
theorem FV {x0}:j8 x0=app ([]:(List an)) x0.2.2.1 24 fun y1=>mz 0 x0.1 x0.2.1 x0.2.2.1 0 x0.1 ([]:(List ak)) ([]:(List an)) ([]:(List ak)) y1:=aB
theorem FW {x0 x1}:gF x0 x1=mA x1 0 x0.1 x0.2.1 x0.2.2.1:=aB
theorem D1 {x0 x1 x2}:mO x0 x1 x2=(mN x0).bind fun z1=>if(!z1.1.1)=true then some (((0,([]:(List ak)),([]:(List an)),()),1,()),()) else(j8 x0).bind fun z2=>(sV x1).bind fun z3=>if(!z3.1.1)=true then some ((z2.1.1,7,()),()) else(gF x0 x1).bind fun z4=>if(z4.1.1 != 0)=true then some ((z2.1.1,7,()),()) else(fY x0 x2).bind fun z5=>if(decide (z5.1.1 < 0))=true then some ((z2.1.1,3,()),()) else if((Q2 x0.2.2.1:Int) == 8)=true then some ((z2.1.1,5,()),()) else dG x1 x2 false 0 x0.1 x0.2.1 x0.2.2.1 0 z2.1.1.1 ([]:(List an)) ([]:(List ak)) ([]:(List an)) z2.1.1.2.1 z2.1.1.2.2.1:=aB
theorem H2 {x0 x1}:l4 x0 x1=nW x0 x1 0:=aB
theorem D2 {x0 x1}:iy x0 x1=iB 0 x0.1 x0.2.1 x0.2.2.1 ([x1]:(List Int)):=aB
theorem zp {x0 x1 x2 x3 x4}:li x0 x1 x2 x3 x4=fI x1 x2 0 x3 x4 x0 0 ([]:(List ak)) ([]:(List an)):=aB
theorem H3 {x0 x1 x2}:wi x0 x1 x2=(iy x0 x1).bind fun z1=>(iy x0 x2).bind fun z2=>lq 0 0 z1.1.1 z2.1.1:=aB
theorem D3 {x0 x1}:gx x0 x1=(fY x0 x1).bind fun z1=>if(decide (z1.1.1 < 0))=true then some ((([]:(List af)),()),()) else ix x0.2.1 z1.1.1 (ar.dflt) fun y1=>app ([]:(List af)) y1.2.2.1 32 fun y2=>some ((y2,()),()):=aB
theorem H4 {x0 x1}:AC x0 x1=(fb x0).bind fun z1=>if(!z1.1.1)=true then some ((([]:(List aP)),()),()) else(fb x1).bind fun z2=>if(!z2.1.1)=true then some ((([]:(List aP)),()),()) else aU x0 x1 0 0 ([]:(List aP)):=aB
theorem LG {x0 x1}:HA x0 x1=s8 x0 0 x1.1 x1.2.1:=aB
theorem JV {x0 x1 x2}:zf x0 x1 x2=eQ x0 x2 (P2 x2 == P2 ⟨#[]⟩) 0 x1.1 x1.2.1 ([]:(List af)):=aB
theorem H5 {x0 x1 x2}:AD x0 x1 x2=(fb x0).bind fun z1=>if(!z1.1.1)=true then some ((([]:(List af)),([]:(List aw)),false,()),()) else(fb x1).bind fun z2=>if(!z2.1.1)=true then some ((([]:(List af)),([]:(List aw)),false,()),()) else(fb x2).bind fun z3=>if(!z3.1.1)=true then some ((([]:(List af)),([]:(List aw)),false,()),()) else app ([]:(List af)) x1 32 fun y1=>(AC x0 x2).bind fun z4=>jc x1 0 y1 ([]:(List aw)) z4.1.1:=aB
theorem FX {x0 x1 x2 x3}:sW x0 x1 x2 x3=(j8 x0).bind fun z1=>if((Q2 x0.2.1:Int) == 40)=true then some ((z1.1.1,0,false,()),()) else if(x0.1 == 1000000000)=true then some ((z1.1.1,0,false,()),()) else app ([]:(List af)) x3 32 fun y1=>app z1.1.1.2.1 ([(x0.1,x2,y1,())]:(List ak)) 56 fun y2=>(li (ci_ cj_ (x0.1+1)) x1 x0.1 y2 z1.1.1.2.2.1).bind fun z2=>some ((z2.1.1,x0.1,true,()),()):=aB
theorem D4 {x0 x1 x2}:pZ x0 x1 x2=(mN x0).bind fun z1=>if(!z1.1.1)=true then some (((0,([]:(List ak)),([]:(List an)),()),([]:(List aw)),1,()),()) else(j8 x0).bind fun z2=>(gF x0 x1).bind fun z3=>(gF x0 x2).bind fun z4=>if(z3.1.1 == 0)=true then some ((z2.1.1,([]:(List aw)),2,()),()) else if(z4.1.1 == 0)=true then some ((z2.1.1,([]:(List aw)),2,()),()) else(iy x0 z3.1.1).bind fun z5=>(l4 z5.1.1 z4.1.1).bind fun z6=>if z6.1.1=true then some ((z2.1.1,([]:(List aw)),0,()),()) else(iy x0 z4.1.1).bind fun z7=>(l4 z7.1.1 z3.1.1).bind fun z8=>if z8.1.1=true then(li z2.1.1.1 x1 z4.1.1 z2.1.1.2.1 z2.1.1.2.2.1).bind fun z9=>some ((z9.1.1,([]:(List aw)),0,()),()) else(wi x0 z3.1.1 z4.1.1).bind fun z10=>(gx x0 z10.1.1).bind fun z11=>(gx x0 z3.1.1).bind fun z12=>(gx x0 z4.1.1).bind fun z13=>(AD z11.1.1 z12.1.1 z13.1.1).bind fun z14=>if(decide ((Q2 z14.1.2.1:Int) > 0))=true then some ((z2.1.1,z14.1.2.1,6,()),()) else if(!z14.1.2.2.1)=true then some ((z2.1.1,([]:(List aw)),4,()),()) else(sW x0 x1 ([(if z4.1.1 < z3.1.1 then z4.1.1 else z3.1.1),(if z3.1.1 < z4.1.1 then z4.1.1 else z3.1.1)]:(List Int)) z14.1.1).bind fun z15=>if(!z15.1.2.2.1)=true then some ((z2.1.1,([]:(List aw)),5,()),()) else some ((z15.1.1,([]:(List aw)),0,()),()):=aB
theorem H6 {x0 x1}:ry x0 x1=(mN x0).bind fun z1=>if(!z1.1.1)=true then some ((0,()),()) else(gF x0 x1).bind fun z2=>some ((z2.1.1,()),()):=aB
theorem D5 {x0}:mP x0=(bF 3 x0).bind fun z1=>(bF 4 z1.2.1).bind fun z2=>some ((((ci_ cj_ (1+z1.1.1)),(ci_ cj_ (1+z2.1.1)),()),()),(z2.2.1,())):=aB
theorem JW {x0 x1 x2}:u5 x0 x1 x2=(oY x2).bind fun z1=>(fb x0).bind fun z2=>if(!z2.1.1)=true then some ((([]:(List af)),false,()),()) else(dg x1).bind fun z3=>if(!z3.1.1)=true then some ((([]:(List af)),false,()),()) else if(!z1.1.2.1)=true then some ((([]:(List af)),false,()),()) else(zf x0 x1 z1.1.1).bind fun z4=>if(decide ((Q2 z4.1.1:Int) > 120))=true then some ((([]:(List af)),false,()),()) else some ((z4.1.1,true,()),()):=aB
theorem Cx {x0 x1 x2}:nR x0 x1 x2=(bF (ci_ cj_ (x1+1)) x2).bind fun z1=>jN x0 z1.1.1 z1.2.1:=aB
theorem Cy {x0 x1 x2}:lj x0 x1 x2=(mN x0).bind fun z1=>if(!z1.1.1)=true then some (((0,([]:(List ak)),([]:(List an)),()),0,1,()),()) else(gF x0 x1).bind fun z2=>if(z2.1.1 == 0)=true then(j8 x0).bind fun z3=>some ((z3.1.1,0,2,()),()) else(fb x2).bind fun z4=>if(!z4.1.1)=true then(j8 x0).bind fun z5=>some ((z5.1.1,0,4,()),()) else(sW x0 x1 ([z2.1.1]:(List Int)) x2).bind fun z6=>if(!z6.1.2.2.1)=true then some ((z6.1.1,0,5,()),()) else some ((z6.1.1,z6.1.2.1,0,()),()):=aB
theorem Cz {x0 x1}:sX x0 x1=(bF x0 x1).bind fun z1=>some (((z1.1.1 == (ci_ cj_ (x0 - 1))),()),(z1.2.1,())):=aB
theorem CA {x0}:sY x0=jO 0 0 x0:=aB
theorem CB {x0 x1 x2}:sZ x0 x1 x2=(bF 8 x2).bind fun z1=>if(z1.1.1 == 0)=true then some ((x0,()),(z1.2.1,())) else if(z1.1.1 == 1)=true then some ((x1,()),(z1.2.1,())) else if(decide (x1 < x0))=true then some ((x0,()),(z1.2.1,())) else(sY z1.2.1).bind fun z2=>nz (IntKind.u64.wrap (ci_ cj_ ((ci_ cj_ (x1 - x0))+1))) (some (((ci_ cj_ (x0+(ci_ cj_ (ap_ (Int.fdiv z2.1.1 (2 ^ min (S6 1) (IntKind.bits .u64))) (IntKind.u64.wrap (ci_ cj_ ((ci_ cj_ (x1 - x0))+1))))))),()),(z2.2.1,()))):=aB
theorem D6 {x0 x1 x2}:kz x0 x1 x2=(sX 24 x2).bind fun z1=>if z1.1.1=true then(bF 4 z1.2.1).bind fun z2=>inb ([(ci_ cj_ (x0 - 1)),(ci_ cj_ (x1+1)),(-9223372036854775808),9223372036854775807]:(List Int)) z2.1.1 (some (((S9 ([(ci_ cj_ (x0 - 1)),(ci_ cj_ (x1+1)),(-9223372036854775808),9223372036854775807]:(List Int)) (S6 z2.1.1) 0),()),(z2.2.1,()))) else(sZ x0 x1 z1.2.1).bind fun z3=>some ((z3.1.1,()),(z3.2.1,())):=aB
theorem D7 {x0 x1 x2}:u6 x0 x1 x2=(GG).bind fun z1=>(qz (ci_ cj_ (x0+1)) x1 x2).bind fun z2=>fh z2.1.1 z2.2.1 0 z1.1.1.1 ([]:(List ak)) ([]:(List an)) z1.1.1.2.1 z1.1.1.2.2.1:=aB
theorem FY {x0}:xE x0=(GF x0).bind fun z1=>(u6 9 z1.1.1.1 z1.1.1.2.1).bind fun z2=>(bF (if 1 < z2.1.1.1 then z2.1.1.1 else 1) z2.2.1).bind fun z3=>(bF (if 1 < z2.1.1.1 then z2.1.1.1 else 1) z3.2.1).bind fun z4=>some ((z2.1.1,(ci_ cj_ (1+z3.1.1)),(ci_ cj_ (1+z4.1.1)),()),()):=aB
theorem H7 {x0 x1 x2}:du x0 x1 x2=if(decide (x0≥x1))=true then some (((decide (x0≤x2)),()),()) else some ((false,()),()):=aB
theorem wF {x0 x1}:rz x0 x1=some (((x0.1 == x1),()),(x1,())):=aB
theorem gk {x0 x1}:dD x0 x1=bz x0 (Q2 x0:Int) 0 x1:=aB
theorem zq {x0 x1}:dA x0 x1=(dD x0.2.1 x1).bind fun z1=>some ((z1.1.1,()),()):=aB
theorem CC {x0 x1 x2}:nS x0 x1 x2=dl x1 x2 x1 (Q2 x1:Int) 0 x0.1 x0.2.1 x0.2.2.1:=aB
theorem JX {x0}:oZ x0=(du x0.1 1 52).bind fun z1=>if z1.1.1=true then(du x0.2.1 1 99).bind fun z2=>some ((z2.1.1,()),()) else some ((false,()),()):=aB
theorem mR {x0}:lk x0=some (((x0 != x0),()),()):=aB
theorem tc {x0 x1}:f6 x0 x1=(lk x0).bind fun z1=>(lk x1).bind fun z2=>if z1.1.1=true then if z2.1.1=true then some ((0,()),()) else some (((-1),()),()) else if z2.1.1=true then some ((1,()),()) else if(decide (x0 < x1))=true then some (((-1),()),()) else if(decide (x0 > x1))=true then some ((1,()),()) else some ((0,()),()):=aB
theorem CD {x0}:s4 x0=jP 0 x0 (Q2 x0:Int) 0:=aB
theorem zr {x0 x1}:o0 x0 x1=(f6 x0.2.1 x1.2.1).bind fun z1=>(f6 x0.1 x1.1).bind fun z2=>(s4 ([z1.1.1,z2.1.1]:(List Int))).bind fun z3=>some ((z3.1.1,()),()):=aB
theorem H8 {x0 x1}:rA x0 x1=nX x0 x1 (Q8 x0:Int) 0:=aB
theorem o8 {x0 x1}:dv x0 x1=if(decide ((Q8 x0:Int)≥(Q8 x1:Int)))=true then wP x0 (Q8 x1:Int) fun y1=>some (((P2 y1 == P2 x1),()),()) else some ((false,()),()):=aB
theorem o9 {x0 x1}:kA x0 x1=(dv x0 x1).bind fun z1=>if(!z1.1.1)=true then some ((x0,false,()),()) else gc x0 (Q8 x1:Int) fun y1=>some ((y1,true,()),()):=aB
theorem td {x0 x1}:cn x0 x1=(kA x0 x1).bind fun z1=>some (z1.1,()):=aB
theorem ug {x0 x1}:fd x0 x1=(k6) [.val .str x0,.val .str x1] []:=aB
theorem wG {x0 x1 x2}:eX x0 x1 x2=(fd x0 ⟨#[32]⟩).bind fun z1=>some ((),((z1.1.1,x2,x1,()),())):=aB
theorem tf {x0 x1}:c7 x0 x1=(dv x0 x1).bind fun z1=>some ((z1.1.1,()),()):=aB
theorem zs {x0 x1 x2}:ll x0 x1 x2=(eX x0 x1 x2).bind fun z1=>ib (Q2 ([⟨#[60,62]⟩,⟨#[60,61]⟩,⟨#[62,61]⟩,⟨#[60]⟩,⟨#[62]⟩,⟨#[61]⟩,⟨#[38]⟩,⟨#[43]⟩,⟨#[45]⟩,⟨#[42]⟩,⟨#[47]⟩,⟨#[40]⟩,⟨#[41]⟩,⟨#[44]⟩,⟨#[58]⟩]:(List P0)):Int) 0 z1.2.1.1 z1.2.1.2.2.1 ([⟨#[60,62]⟩,⟨#[60,61]⟩,⟨#[62,61]⟩,⟨#[60]⟩,⟨#[62]⟩,⟨#[61]⟩,⟨#[38]⟩,⟨#[43]⟩,⟨#[45]⟩,⟨#[42]⟩,⟨#[47]⟩,⟨#[40]⟩,⟨#[41]⟩,⟨#[44]⟩,⟨#[58]⟩]:(List P0)) z1.2.1.2.1:=aB
theorem zt {x0 x1 x2 x3}:bu x0 x1 x2 x3=(ll x1 x2 x3).bind fun z1=>if(! (P2 z1.1.1 == P2 x0))=true then some ((false,()),(z1.2.1,())) else gc z1.2.1.1 (Q8 x0:Int) fun y1=>some ((true,()),((y1,z1.2.1.2.1,z1.2.1.2.2.1,()),())):=aB
theorem pc {x0 x1 x2 x3}:gU x0 x1 x2 x3=if(decide (x0 > 400))=true then some (((-1),()),((x1,x3,true,()),())) else if x2=true then some (((-1),()),((x1,x3,x2,()),())) else(bu ⟨#[45]⟩ x1 x2 x3).bind fun z1=>if z1.1.1=true then(gU (ci_ cj_ (x0+1)) z1.2.1.1 z1.2.1.2.2.1 z1.2.1.2.1).bind fun z2=>(aR (4,0,(0,0,⟨#[]⟩,()),((0,0,()),false,false,()),((0,0,()),false,false,()),([z2.1.1]:(List Int)),()) z2.2.1.1 z2.2.1.2.2.1 z2.2.1.2.1).bind fun z3=>some ((z3.1.1,()),(z3.2.1,())) else(ln x0 z1.2.1.1 z1.2.1.2.2.1 z1.2.1.2.1).bind fun z4=>some ((z4.1.1,()),(z4.2.1,())):=aB
theorem AK {x0 x1 x2 x3}:aR x0 x1 x2 x3=if x2=true then some (((ci_ cj_ ((Q2 x3:Int) - 1)),()),((x1,x3,true,()),())) else if(! (decide ((Q2 x3:Int)≥60)))=true then app x3 ([x0]:(List ab)) 120 fun y1=>some (((ci_ cj_ ((Q2 y1:Int) - 1)),()),((x1,y1,(decide ((Q2 x3:Int)≥60)),()),())) else some (((ci_ cj_ ((Q2 x3:Int) - 1)),()),((x1,x3,(decide ((Q2 x3:Int)≥60)),()),())):=aB
theorem AL {x0 x1}:strings_Cut x0 x1=(wg) [.val .str x0,.val .str x1] []:=aB
theorem uh {x0 x1 x2 x3}:bG x0 x1 x2 x3=(aR (1,0,x0,((0,0,()),false,false,()),((0,0,()),false,false,()),([]:(List Int)),()) x1 x2 x3).bind fun z1=>some ((z1.1.1,()),(z1.2.1,())):=aB
theorem wH {x0 x1 x2}:ge x0 x1 x2=gc x0 1 fun y1=>f7 ⟨#[]⟩ y1 x0 x1 x2:=aB
theorem CE {x0}:lm x0=inb ([⟨#[]⟩,⟨#[35,68,73,86,33]⟩,⟨#[35,84,89,80,69,33]⟩,⟨#[35,82,69,70,33]⟩,⟨#[35,79,86,69,82,33]⟩,⟨#[35,67,89,67,76,69,33]⟩]:(List P0)) x0 (some (((S9 ([⟨#[]⟩,⟨#[35,68,73,86,33]⟩,⟨#[35,84,89,80,69,33]⟩,⟨#[35,82,69,70,33]⟩,⟨#[35,79,86,69,82,33]⟩,⟨#[35,67,89,67,76,69,33]⟩]:(List P0)) (S6 x0) ⟨#[]⟩),()),())):=aB
theorem JY {x0}:zg x0=some (((4,x0,⟨#[]⟩,()),()),()):=aB
theorem zu {x0 x1 x2}:gf x0 x1 x2=(eX x0 x1 x2).bind fun z1=>(fd z1.2.1.1 ⟨#[65,66,67,68,69,70,71,72,73,74,75,76,77,78,79,80,81,82,83,84,85,86,87,88,89,90,48,49,50,51,52,53,54,55,56,57,36]⟩).bind fun z2=>wP z1.2.1.1 (ci_ cj_ ((Q8 z1.2.1.1:Int) - (Q8 z2.1.1:Int))) fun y1=>gc z1.2.1.1 (ci_ cj_ ((Q8 z1.2.1.1:Int) - (Q8 z2.1.1:Int))) fun y2=>some ((y1,()),((y2,z1.2.1.2.1,z1.2.1.2.2.1,()),())):=aB
theorem FZ {x0}:fe x0=if(x0.1 == 2)=true then if(x0.2.1 == 0)=true then(rA x0.2.2.1 200).bind fun z1=>some ((z1.1.1,()),()) else some ((false,()),()) else if(! (P2 x0.2.2.1 == P2 ⟨#[]⟩))=true then some ((false,()),()) else if(x0.1 == 0)=true then some (((x0.2.1 == 0),()),()) else if(x0.1 == 1)=true then(du x0.2.1 (-1000000000000000) 1000000000000000).bind fun z2=>some ((z2.1.1,()),()) else if(x0.1 == 3)=true then(du x0.2.1 0 1).bind fun z3=>some ((z3.1.1,()),()) else if(x0.1 == 4)=true then(du x0.2.1 1 5).bind fun z4=>some ((z4.1.1,()),()) else some ((false,()),()):=aB
theorem tg {x0 x1}:ny x0 x1=(we) [.val (.int .i64) x0,.val (.int .i64) x1] []:=aB
theorem F0 {x0}:gG x0=(ny x0 10).bind fun z1=>some ((z1.1.1,()),()):=aB
theorem CF {x0}:dU x0=if(x0.1 == 1)=true then(gG x0.2.1).bind fun z1=>some ((z1.1.1,()),()) else if(x0.1 == 2)=true then cats ⟨#[39]⟩ x0.2.2.1 fun y1=>some ((y1,()),()) else if(x0.1 == 3)=true then inb ([⟨#[70,65,76,83,69]⟩,⟨#[84,82,85,69]⟩]:(List P0)) x0.2.1 (some (((S9 ([⟨#[70,65,76,83,69]⟩,⟨#[84,82,85,69]⟩]:(List P0)) (S6 x0.2.1) ⟨#[]⟩),()),())) else if(x0.1 == 4)=true then(lm x0.2.1).bind fun z2=>some ((z2.1.1,()),()) else some ((⟨#[]⟩,()),()):=aB
theorem JZ {x0}:zh x0=if x0=true then some (((3,1,⟨#[]⟩,()),()),()) else some (((3,0,⟨#[]⟩,()),()),()):=aB
theorem ui {x0 x1 x2}:ff x0 x1 x2=(k7) [.val .str x0,.val (.int .i64) x1,.val (.int .i64) x2] []:=aB
theorem H9 {x0}:wj x0=some (((1,x0,⟨#[]⟩,()),()),()):=aB
theorem CG {x0}:gH x0=(cn x0 ⟨#[39]⟩).bind fun z1=>if z1.1.2.1=true then(fe (2,0,z1.1.1,())).bind fun z2=>if(!z2.1.1)=true then some (((0,0,⟨#[]⟩,()),false,()),()) else(dU (2,0,z1.1.1,())).bind fun z3=>if(! (P2 z3.1.1 == P2 x0))=true then some (((0,0,⟨#[]⟩,()),false,()),()) else some (((2,0,z1.1.1,()),true,()),()) else if(P2 x0 == P2 ⟨#[70,65,76,83,69]⟩)=true then(zh (P2 x0 == P2 ⟨#[84,82,85,69]⟩)).bind fun z4=>(fe z4.1.1).bind fun z5=>if(!z5.1.1)=true then some (((0,0,⟨#[]⟩,()),false,()),()) else(dU z4.1.1).bind fun z6=>if(! (P2 z6.1.1 == P2 x0))=true then some (((0,0,⟨#[]⟩,()),false,()),()) else some ((z4.1.1,true,()),()) else if(P2 x0 == P2 ⟨#[84,82,85,69]⟩)=true then(zh (P2 x0 == P2 ⟨#[84,82,85,69]⟩)).bind fun z7=>(fe z7.1.1).bind fun z8=>if(!z8.1.1)=true then some (((0,0,⟨#[]⟩,()),false,()),()) else(dU z7.1.1).bind fun z9=>if(! (P2 z9.1.1 == P2 x0))=true then some (((0,0,⟨#[]⟩,()),false,()),()) else some ((z7.1.1,true,()),()) else(c7 x0 ⟨#[35]⟩).bind fun z10=>if z10.1.1=true then eD x0 1 0 0 ⟨#[]⟩ 0 0 ⟨#[]⟩ else if(! (P2 x0 == P2 ⟨#[]⟩))=true then(ff x0 10 64).bind fun z11=>(wj z11.1.1).bind fun z12=>(fe z12.1.1).bind fun z13=>if(!z13.1.1)=true then some (((0,0,⟨#[]⟩,()),false,()),()) else(dU z12.1.1).bind fun z14=>if(! (P2 z14.1.1 == P2 x0))=true then some (((0,0,⟨#[]⟩,()),false,()),()) else some ((z12.1.1,true,()),()) else(fe (0,0,⟨#[]⟩,())).bind fun z15=>if(!z15.1.1)=true then some (((0,0,⟨#[]⟩,()),false,()),()) else(dU (0,0,⟨#[]⟩,())).bind fun z16=>if(! (P2 z16.1.1 == P2 x0))=true then some (((0,0,⟨#[]⟩,()),false,()),()) else some (((0,0,⟨#[]⟩,()),true,()),()):=aB
theorem F1 {x0}:l5 x0=(du x0 1 52).bind fun z1=>if(!z1.1.1)=true then some ((⟨#[]⟩,()),()) else if(decide (x0≤26))=true then some (((strOfNums ([(IntKind.u8.wrap (ci_ cj_ ((ci_ cj_ (65+x0)) - 1)))]:(List Int))),()),()) else some (((strOfNums ([(IntKind.u8.wrap (ci_ cj_ ((ci_ cj_ (65+(ci_ cj_ (Int.tdiv (ci_ cj_ (x0 - 1)) 26)))) - 1))),(IntKind.u8.wrap (ci_ cj_ (65+(ap_ (ci_ cj_ (x0 - 1)) 26))))]:(List Int))),()),()):=aB
theorem F2 {x0}:xF x0=qE x0 1:=aB
theorem CH {x0}:jb x0=(oZ x0.1).bind fun z1=>if(!z1.1.1)=true then some ((⟨#[]⟩,()),()) else if x0.2.1=true then(l5 x0.1.1).bind fun z2=>cats ⟨#[36]⟩ z2.1.1 fun y1=>if x0.2.2.1=true then cats y1 ⟨#[36]⟩ fun y2=>(gG x0.1.2.1).bind fun z3=>cats y2 z3.1.1 fun y3=>some ((y3,()),()) else(gG x0.1.2.1).bind fun z4=>cats y1 z4.1.1 fun y4=>some ((y4,()),()) else(l5 x0.1.1).bind fun z5=>cats ⟨#[]⟩ z5.1.1 fun y5=>if x0.2.2.1=true then cats y5 ⟨#[36]⟩ fun y6=>(gG x0.1.2.1).bind fun z6=>cats y6 z6.1.1 fun y7=>some ((y7,()),()) else(gG x0.1.2.1).bind fun z7=>cats y5 z7.1.1 fun y8=>some ((y8,()),()):=aB
theorem CI {x0}:eM x0=(cn x0 ⟨#[36]⟩).bind fun z1=>(fd z1.1.1 ⟨#[65,66,67,68,69,70,71,72,73,74,75,76,77,78,79,80,81,82,83,84,85,86,87,88,89,90]⟩).bind fun z2=>wP z1.1.1 (ci_ cj_ ((Q8 z1.1.1:Int) - (Q8 z2.1.1:Int))) fun y1=>(xF y1).bind fun z3=>gc z1.1.1 (ci_ cj_ ((Q8 z1.1.1:Int) - (Q8 z2.1.1:Int))) fun y2=>(cn y2 ⟨#[36]⟩).bind fun z4=>(ff z4.1.1 10 64).bind fun z5=>(oZ (z3.1.1,z5.1.1,())).bind fun z6=>if(!z6.1.1)=true then some ((((0,0,()),false,false,()),false,()),()) else(jb ((z3.1.1,z5.1.1,()),z1.1.2.1,z4.1.2.1,())).bind fun z7=>if(! (P2 z7.1.1 == P2 x0))=true then some ((((0,0,()),false,false,()),false,()),()) else some ((((z3.1.1,z5.1.1,()),z1.1.2.1,z4.1.2.1,()),true,()),()):=aB
theorem Ia {x0}:wk x0=inb ([⟨#[]⟩,⟨#[83,85,77]⟩,⟨#[77,73,78]⟩,⟨#[77,65,88]⟩,⟨#[67,79,85,78,84]⟩,⟨#[73,70]⟩,⟨#[65,78,68]⟩,⟨#[79,82]⟩,⟨#[78,79,84]⟩,⟨#[65,66,83]⟩,⟨#[76,69,78]⟩]:(List P0)) x0 (some (((S9 ([⟨#[]⟩,⟨#[83,85,77]⟩,⟨#[77,73,78]⟩,⟨#[77,65,88]⟩,⟨#[67,79,85,78,84]⟩,⟨#[73,70]⟩,⟨#[65,78,68]⟩,⟨#[79,82]⟩,⟨#[78,79,84]⟩,⟨#[65,66,83]⟩,⟨#[76,69,78]⟩]:(List P0)) (S6 x0) ⟨#[]⟩),()),())):=aB
theorem uj {x0 x1 x2}:gI x0 x1 x2=(gf x0 x1 x2).bind fun z1=>(eM z1.1.1).bind fun z2=>if z2.1.2.1=true then(bu ⟨#[58]⟩ z1.2.1.1 z1.2.1.2.2.1 z1.2.1.2.1).bind fun z3=>if(!z3.1.1)=true then some (((0,0,(0,0,⟨#[]⟩,()),((0,0,()),false,false,()),((0,0,()),false,false,()),([]:(List Int)),()),false,()),((x0,z3.2.1.2.1,z3.2.1.2.2.1,()),())) else(gf z3.2.1.1 z3.2.1.2.2.1 z3.2.1.2.1).bind fun z4=>(eM z4.1.1).bind fun z5=>if z4.2.1.2.2.1=true then some (((3,0,(0,0,⟨#[]⟩,()),z2.1.1,z5.1.1,([]:(List Int)),()),true,()),((z4.2.1.1,z4.2.1.2.1,true,()),())) else some (((3,0,(0,0,⟨#[]⟩,()),z2.1.1,z5.1.1,([]:(List Int)),()),true,()),((z4.2.1.1,z4.2.1.2.1,(!z5.1.2.1),()),())) else some (((0,0,(0,0,⟨#[]⟩,()),((0,0,()),false,false,()),((0,0,()),false,false,()),([]:(List Int)),()),false,()),((x0,z1.2.1.2.1,z1.2.1.2.2.1,()),())):=aB
theorem nD {x0 x1 x2 x3 x4}:bw x0 x1 x2 x3 x4=(gU x1 x2 x3 x4).bind fun z1=>dB x0 x1 z1.1.1 z1.2.1.1 z1.2.1.2.2.1 z1.2.1.2.1:=aB
theorem p5 {x0 x1 x2 x3 x4}:fg x0 x1 x2 x3 x4=if x3=true then p4 x0 x1 x2 true x4 ([]:(List Int)) else(bu ⟨#[40]⟩ x2 x3 x4).bind fun z1=>b9 x0 x1 z1.2.1.1 (!z1.1.1) ([]:(List Int)) z1.2.1.2.1:=aB
end Go.Proofs.YtfffplonjaigkaaGreatDoor.Abs
