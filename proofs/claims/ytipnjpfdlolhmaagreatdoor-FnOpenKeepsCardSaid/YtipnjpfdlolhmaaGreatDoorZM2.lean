/- A row's frame that keeps the world's shape beside what is laid; the cell of a variable of the library's that is a number. -/
import Derived.Handed
import Derived.HandedShaped
import Derived.LaidLaws
import Derived.Stop.LaidErr
import Derived.Shelf.LaysM
import Derived.Test.YtipnjpfdlolhmaaGreatDoorZM1
import Derived.SevenTiedAt
import Derived.Test.YtipnjpfdlolhmaaGreatDoorZA3
import Derived.Test.YtipnjpfdlolhmaaGreatDoorZQAD
set_option linter.unusedVariables false
open Bool renaming and_eq_true→Z8,eq_false_iff→bt_
open ByteArray renaming size→ao_,toList→Z6
open Go.IntKind renaming i64→gu_,wrap→gt_
open Int renaming tmod→du_,toNat_natCast→dd_,toNat→an_
open List renaming any_eq_true→gi_,getD→aw_,getElem?_eq_some_iff→ar_,length→ac_
open Option.some renaming inj→bl_
open _root_ renaming ByteArray→Z0,if_pos→Z3
namespace Go.Proofs.YtipnjpfdlolhmaaGreatDoor.Abs
open Go Go.RowKit Go.ChangeShapes
theorem Nn {W:World} (h:W.ShapedOpen Tryz.prog) : ∃ m,W.cell? ⟨5,0,none⟩=some (.int .i64 m):=Tryz.layCut.s1_3 W h
theorem rI {H:Type} {enc:TypeId×Value→H} {a:Assume} {C:Checked} {os:Os} {f:FuncId} {fn:Func} {s:ChangeSpec} {conds:List PathCond} {apart fresh handsOn again:Bool} {X:World→Array Value→Prop}
  (hX : ∀(w w':World) (args:Array Value),w.heap=w'.heap→X w args→X w' args)
  (own:ownKnob C.prog.godebug=none) (started:os.Started) (noInit:C.prog.inits.idxOf? f=none) (hfn:C.prog.funcs[f]? = some fn)
  (witness : ∃(w:World) (tape:Tape) (i:Input),w.os=os∧(w.forCall tape i).Shaped C.prog∧i.vars=[]∧Input.okWide C.prog (w.forCall tape i) .any w.heap.size f i ∧
   ((s.pre enc C.prog fn conds apart (w.forCall tape i).memory i.args∧X (w.forCall tape i).memory i.args)∧sizedMet enc C.prog fn (OpenSpec.ofChange s) apart (w.forCall tape i).memory i.args)∧a.holds C.prog (lone (Frame.enter C.prog f i.args .normal) [] (w.forCall tape i)))
  (contract : ∀(W:World) (base:Nat) (args:Array Value) (ds gs:List (DataW H)) (before:List MemPlace),
   (∀(j:Nat) t v,fn.params[j]? = some t→args[j]? = some v→Value.okWide C.prog W .any base t v) →
   DataW.Whole enc C.prog fn.params.toList s.vars apart W args.toList ds gs before →
   conds.all (PathCond.test C.prog ⟨fn.params.toList,ds,s.plain.varTypes C.prog,gs⟩)=true →
   (DataW.weightsEach C.prog (fn.params.toList++s.plain.varTypes C.prog) (ds++gs)).all (· ≤ reachBytes)=true→X W args→W.ShapedOpen C.prog →
   a.holds C.prog (lone (Frame.enter C.prog f args .normal) [] W) →
   Calls C.prog f args W fun e W' => ∃ v,e = .returned v∧s.post enc C.prog fn apart fresh handsOn again W args v W') :
  ReturnsInHanded a C os f .any (fun w args=>(s.pre enc C.prog fn conds apart w args∧X w args)∧sizedMet enc C.prog fn (OpenSpec.ofChange s) apart w args) (s.post enc C.prog fn apart fresh handsOn again):=by
 refine returnsInHanded_of_calls own started noInit witness ?_
 intro w tape i _ hsh _ hok hpre hholds
 obtain⟨_,_,_,fn',hfn',_,_,_,_,hval⟩:=hok
 have e:fn'=fn:=bl_ (hfn'.symm.trans hfn)
 subst e
 obtain⟨⟨⟨ds,gs,before,hw,hc⟩,hx⟩,hz⟩:=hpre
 have hw':=DataW.Whole.of_heap (w':=w.forCall tape i) (by rfl) hw
 refine(contract (w.forCall tape i) w.heap.size i.args ds gs before hval hw' hc (hz.weights hw) (hX _ _ _ (by rfl) hx) hsh hholds).mono fun e W' ⟨v,he,hp⟩ => ?_
 subst he
 exact ChangeSpec.post_blind hp
end Go.Proofs.YtipnjpfdlolhmaaGreatDoor.Abs
namespace Go.Proofs.YtipnjpfdlolhmaaGreatDoor.Abs
open Go
theorem SI {P:Program} (h:P.funcs.any Func.goes=false) (c:OpenClaim):false=c.goesBy P:=by
 have h1 : ∀ g:FuncId,(P.funcs[g]?).any Func.goes=false:=by
  intro g
  cases hg:P.funcs[g]? with
  | none=>rfl
  | some fn =>
   rw[Option.any_some,bt_]
   intro hh
   have h2:P.funcs.any Func.goes=true:=by
    rw[Array.any_eq_true]
    obtain⟨hl,e⟩:=Array.getElem?_eq_some_iff.1 hg
    exact⟨g,hl,by rw[e]; exact hh⟩
   rw[h] at h2
   cases h2
 have h2 : ∀ f:FuncId,P.goes f=false:=by
  intro f
  unfold Program.goes
  rw[h,Bool.and_false,Bool.or_false,bt_]
  intro hh
  obtain⟨g,_,hg⟩:=gi_.1 hh
  rw[h1 g] at hg
  cases hg
 have h3 : ∀ s:String,P.goesFrom s=false:=by
  intro s
  unfold Program.goesFrom
  cases P.funcNamed s with
  | none=>rfl
  | some f=>exact h2 f
 have h4:P.inits.toList.any P.goes=false:=by
  rw[bt_]
  intro hh
  obtain⟨g,_,hg⟩:=gi_.1 hh
  rw[h2 g] at hg
  cases hg
 unfold OpenClaim.goesBy Program.goesAt
 rw[h3,Bool.false_or,h4]
 cases c.start <;> rfl
end Go.Proofs.YtipnjpfdlolhmaaGreatDoor.Abs
set_option linter.unusedSimpArgs false
set_option linter.unusedSectionVars false
namespace Go.Proofs.YtipnjpfdlolhmaaGreatDoor.Abs
open Go
section
variable {α β:Type}
theorem bI {xs pre ys:List α} {y d:α} {f:α→Option β} (h:xs=pre++y :: ys):ix xs (pre.length:Int) d f=f y:=by
 subst h
 have h1:((pre.length:Nat):Int) < ((pre++y :: ys).length:Int):=KM
 unfold ix
 rw[Z3 (nn _),Z3 h1,wD]
theorem cP {xs:List α} {i:Int} {y d:α} {f:α→Option β} (h0:0≤i) (h:xs[i.toNat]? = some y):ix xs i d f=f y:=by
 have h2:=(ar_.1 h)
 obtain⟨h3,h4⟩:=h2
 have h1:i < (xs.length:Int):=by omega
 unfold ix
 rw[Z3 h0,Z3 h1]
 congr 1
 simp[List.getD_eq_getElem?_getD,h]
theorem dx {xs:List α} {i:Int} {k:Option β} (h0:0≤i) (h1:i < (xs.length:Int)):inb xs i k=k:=by
 unfold inb
 rw[Z3 h0,Z3 h1]
theorem nq {xs pre ys:List α} {y:α} {k:Option β} (h:xs=pre++y :: ys):inb xs (pre.length:Int) k=k:=by
 subst h
 exact dx (nn _) KM
theorem X7 {s:Z0} {i:Int} {f:Int→Option β} (h0:0≤i) (h1:i < (s.size:Int)):ex s i f=f (bt s i):=by
 unfold ex
 rw[Z3 h0,Z3 h1]
theorem Fg {n b:Nat} {d:α} {f:List α→Option β} (h:n*b≤140737488355328):HK (n:Int) b d f=f (List.replicate n d):=by
 unfold HK
 rw[Z3 (nn _)]
 simp only[dd_]
 rw[Z3 h]
theorem mD {a b:Z0} {f:Z0→Option β} (h:a.size+b.size≤9223372036854775807):cats a b f=f (a++b):=Z3 h
theorem bJ {a b:List α} {n:Nat} {f:List α→Option β} (h:(a.length+b.length)*n≤140737488355328):app a b n f=f (a++b):=Z3 h
theorem X8 {s:Z0} {h:Int} {f:Z0→Option β} (h0:0≤h) (h1:h≤(s.size:Int)):CF s h f=f (s.extract 0 h.toNat):=by
 unfold CF
 rw[Z3 h0,Z3 h1]
theorem X9 {s:Z0} {l:Int} {f:Z0→Option β} (h0:0≤l) (h1:l≤(s.size:Int)):iJ s l f=f (s.extract l.toNat s.size):=by
 unfold iJ
 rw[Z3 h0,Z3 h1]
theorem Ya {s:Z0} {l h:Int} {f:Z0→Option β} (h0:0≤l) (h1:l≤h) (h2:h≤(s.size:Int)):uH s l h f=f (s.extract l.toNat h.toNat):=by
 unfold uH
 rw[Z3 (by omega),Z3 h2,Z3 h0,Z3 h1]
theorem Yb {xs:List α} {h:Int} {f:List α→Option β} (h0:0≤h) (h1:h≤(xs.length:Int)):OF xs h f=f (xs.take h.toNat):=by
 unfold OF
 rw[Z3 h0,Z3 h1]
theorem Qd {b:Int} {k:Option β} (h:b≠0):nz b k=k:=if_neg h
theorem cr {xs pre ys:List α} {y:α} (h:xs=pre++y :: ys):((pre.length:Nat):Int) < (xs.length:Int):=by rw[h]; exact KM
theorem ci {xs pre:List α} (h:xs=pre++[]) : ¬((pre.length:Nat):Int) < (xs.length:Int):=by rw[h,List.append_nil]; exact Int.lt_irrefl _
theorem bi {xs pre ys:List α} {y:α} (h:xs=pre++y :: ys) (hl:xs.length≤9223372036854775807):IntKind.i64.wrap ((pre.length:Int)+1)=((pre++[y]).length:Int):=by
 have:=cr h
 rw[wr (by omega) (by omega),UZ]
theorem aU {xs pre ys:List α} {y:α} (h:xs=pre++y :: ys):xs=(pre++[y])++ys:=by rw[h]; simp
end
def mV (s:Z0):List Int:=s.data.toList.map fun b=>(b.toNat:Int)
theorem w6 (s:Z0):(mV s).length=s.size:=by
 unfold mV
 rw[List.length_map,Array.length_toList]
 rfl
theorem Yc {s:Z0} {pre ys:List Int} {y:Int} (h:mV s=pre++y :: ys):bt s (pre.length:Int)=y:=by
 have hl:pre.length < s.size:=by rw[←w6,h]; simp
 unfold bt
 simp only[dd_,hl,dite_true]
 have h1:(mV s)[pre.length]? = some y:=by rw[h]; simp
 unfold mV at h1
 rw[List.getElem?_map,Option.map_eq_some_iff] at h1
 obtain⟨b,hb,rfl⟩:=h1
 rw[ar_] at hb
 obtain⟨_,hb⟩:=hb
 rw[←hb]
 simp[ByteArray.getElem_eq_getElem_data]
@[simp] theorem Fh (a b:Z0):mV (a++b)=mV a++mV b:=by simp[mV]
@[simp] theorem size_append (a b:Z0):(a++b).size=a.size+b.size:=ByteArray.size_append
theorem A4 {β:Type} {s:Z0} {pre ys:List Int} {y:Int} {f:Int→Option β} (h:mV s=pre++y :: ys):ex s (pre.length:Int) f=f y:=by
 have hl:((pre.length:Nat):Int) < (s.size:Int):=by rw[←w6]; exact cr h
 rw[X7 (nn _) hl,Yc h]
theorem SJ {s:Z0} {pre ys:List Int} {y:Int} (h:mV s=pre++y :: ys):((pre.length:Nat):Int) < (s.size:Int):=by rw[←w6]; exact cr h
theorem OZ {s:Z0} {pre:List Int} (h:mV s=pre++[]) : ¬((pre.length:Nat):Int) < (s.size:Int):=by rw[←w6]; exact ci h
theorem Lj {s:Z0} {pre ys:List Int} {y:Int} (h:mV s=pre++y :: ys) (hl:s.size≤9223372036854775807):IntKind.i64.wrap ((pre.length:Int)+1)=((pre++[y]).length:Int):=bi h (by rw[w6]; exact hl)
@[simp] theorem ZI {x y:Z0}:(x == y)=true↔x=y:=by
 cases x; cases y
 constructor
 ·intro h
  congr 1
  exact eq_of_beq h
 ·intro h
  cases h
  exact beq_self_eq_true (α:=Array UInt8) _
theorem mE : ∀ {t:Ty} {x y:t.den},di t=true→(bP t x y=true↔x=y)
 | .int _,x,y,_=>by simp[bP]
 | .bool,x,y,_=>by simp[bP]
 | .str,x,y,_=>by
  exact ZI
 | .unit,_,_,_=>by simp[bP]
 | .pair a b,x,y,h=>by
  simp only[di,Z8] at h
  simp only[bP,Z8,mE h.1,mE h.2]
  exact⟨fun⟨h1,h2⟩=>Prod.ext h1 h2,fun h=>by rw[h]; exact⟨rfl,rfl⟩⟩
 | .agg t,x,y,h=>by
  simp only[di] at h
  simp only[bP,mE h]
 | .slice _ _,_,_,h=>by cases h
theorem aQ {α:Type} {p:Prop} [Decidable p] {a b:α} (h:p):(if decide p=true then a else b)=a:=Z3 (decide_eq_true h)
theorem aL {α:Type} {p:Prop} [Decidable p] {a b:α} (h : ¬p):(if decide p=true then a else b)=b:=if_neg (by simpa using h)
section
variable {α:Type}
end
end Go.Proofs.YtipnjpfdlolhmaaGreatDoor.Abs
set_option maxRecDepth 100000
namespace Go.Proofs.YtipnjpfdlolhmaaGreatDoor.Abs
open Go Go.Proofs.YtipnjpfdlolhmaaGreatDoor
theorem WU {x0}:U2 x0=some (((decide ((ac_ x0:Int) > 1048576)),()),()):=av
theorem Qe {x0}:GH x0=some (((x0,0,()),()),()):=av
theorem Jj {x0 x1}:r7 x0 x1=if(decide (x1≥(ac_ x0:Int)))=true then some ((0,()),((x0,x1,()),())) else ix x0 (gt_ gu_ ((gt_ gu_ (x1+1)) - 1)) 0 fun y1=>some (((gt_ gu_ y1),()),((x0,(gt_ gu_ (x1+1)),()),())):=av
theorem w7 {x0}:jJ x0=if(decide (x0.2.1≥(ac_ x0.1:Int)))=true then some ((0,()),(x0,())) else ix x0.1 (gt_ gu_ ((gt_ gu_ (x0.2.1+1)) - 1)) 0 fun y1=>some (((gt_ gu_ y1),()),((x0.1,(gt_ gu_ (x0.2.1+1)),()),())):=av
theorem GR {x0 x1 x2}:vO x0 x1 x2=if(decide (x0≤1))=true then some ((0,()),((x1,x2,()),())) else if(decide (x0≤256))=true then(r7 x1 x2).bind fun z1=>nz x0 (some (((du_ z1.1.1 x0),()),(z1.2.1,()))) else(r7 x1 x2).bind fun z2=>(jJ z2.2.1).bind fun z3=>nz x0 (some (((du_ (gt_ gu_ ((gt_ gu_ (z2.1.1*256))+z3.1.1)) x0),()),(z3.2.1,()))):=av
theorem Fi {x0 x1}:aD x0 x1=if(decide (x0≤1))=true then some ((0,()),(x1,())) else if(decide (x0≤256))=true then(jJ x1).bind fun z1=>nz x0 (some (((du_ z1.1.1 x0),()),(z1.2.1,()))) else(jJ x1).bind fun z2=>(jJ z2.2.1).bind fun z3=>nz x0 (some (((du_ (gt_ gu_ ((gt_ gu_ (z2.1.1*256))+z3.1.1)) x0),()),(z3.2.1,()))):=av
theorem Ll {x0}:fe x0=(aD 3 x0).bind fun z1=>(aD 4 z1.2.1).bind fun z2=>some ((((gt_ gu_ (1+z1.1.1)),(gt_ gu_ (1+z2.1.1)),()),()),(z2.2.1,())):=av
theorem Jk {x0 x1}:cG x0 x1=(aD x0 x1).bind fun z1=>some (((z1.1.1 == (gt_ gu_ (x0 - 1))),()),(z1.2.1,())):=av
theorem U9 {x0 x1 x2}:iq x0 x1 x2=if(decide (x0≥x1))=true then some (((decide (x0≤x2)),()),()) else some ((false,()),()):=av
theorem SK {x0}:c7 x0=(iq x0.1 1 52).bind fun z1=>if z1.1.1=true then(iq x0.2.1 1 99).bind fun z2=>some ((z2.1.1,()),()) else some ((false,()),()):=av
theorem No {x0}:tD x0=(iq x0 1 52).bind fun z1=>if(!z1.1.1)=true then some ((⟨#[]⟩,()),()) else vQ x0 ⟨#[]⟩:=av
theorem Ii {x0}:dR x0=if(decide (x0 < 0))=true then(dR (gt_ gu_ (0 - x0))).bind fun z1=>cats ⟨#[45]⟩ z1.1.1 fun y1=>some ((y1,()),()) else rg x0 ⟨#[]⟩:=av
theorem Jl {x0}:c8 x0=(c7 x0.1).bind fun z1=>if(!z1.1.1)=true then some ((⟨#[]⟩,()),()) else(tD x0.1.1).bind fun z2=>if x0.2.1=true then cats ⟨#[36]⟩ z2.1.1 fun y1=>if x0.2.2.1=true then cats y1 ⟨#[36]⟩ fun y2=>(dR x0.1.2.1).bind fun z3=>cats y2 z3.1.1 fun y3=>some ((y3,()),()) else(dR x0.1.2.1).bind fun z4=>cats y1 z4.1.1 fun y4=>some ((y4,()),()) else if x0.2.2.1=true then cats z2.1.1 ⟨#[36]⟩ fun y5=>(dR x0.1.2.1).bind fun z5=>cats y5 z5.1.1 fun y6=>some ((y6,()),()) else(dR x0.1.2.1).bind fun z6=>cats z2.1.1 z6.1.1 fun y7=>some ((y7,()),()):=av
theorem GS {x0 x1}:bj x0 x1=if(x0 == 0)=true then(aD 7 x1).bind fun z1=>if(z1.1.1 == 0)=true then if(z1.1.1 == 0)=true then(fe z1.2.1).bind fun z2=>(cG 5 z2.2.1).bind fun z3=>(cG 5 z3.2.1).bind fun z4=>(c8 (z2.1.1,z3.1.1,z4.1.1,())).bind fun z5=>some ((z5.1.1,()),(z4.2.1,())) else if(z1.1.1 == 3)=true then(aD 6 z1.2.1).bind fun z6=>inb ([⟨#[34,97,34]⟩,⟨#[34,34]⟩,⟨#[84,82,85,69]⟩,⟨#[70,65,76,83,69]⟩,⟨#[35,82,69,70,33]⟩,⟨#[34,113,34,34,34]⟩]:(List Z0)) z6.1.1 (some (((aw_ ([⟨#[34,97,34]⟩,⟨#[34,34]⟩,⟨#[84,82,85,69]⟩,⟨#[70,65,76,83,69]⟩,⟨#[35,82,69,70,33]⟩,⟨#[34,113,34,34,34]⟩]:(List Z0)) (an_ z6.1.1) ⟨#[]⟩),()),(z6.2.1,()))) else(aD 12 z1.2.1).bind fun z7=>(dR z7.1.1).bind fun z8=>some ((z8.1.1,()),(z7.2.1,())) else if(z1.1.1 == 1)=true then if(z1.1.1 == 1)=true then(fe z1.2.1).bind fun z9=>(cG 5 z9.2.1).bind fun z10=>(cG 5 z10.2.1).bind fun z11=>(c8 (z9.1.1,z10.1.1,z11.1.1,())).bind fun z12=>some ((z12.1.1,()),(z11.2.1,())) else if(z1.1.1 == 3)=true then(aD 6 z1.2.1).bind fun z13=>inb ([⟨#[34,97,34]⟩,⟨#[34,34]⟩,⟨#[84,82,85,69]⟩,⟨#[70,65,76,83,69]⟩,⟨#[35,82,69,70,33]⟩,⟨#[34,113,34,34,34]⟩]:(List Z0)) z13.1.1 (some (((aw_ ([⟨#[34,97,34]⟩,⟨#[34,34]⟩,⟨#[84,82,85,69]⟩,⟨#[70,65,76,83,69]⟩,⟨#[35,82,69,70,33]⟩,⟨#[34,113,34,34,34]⟩]:(List Z0)) (an_ z13.1.1) ⟨#[]⟩),()),(z13.2.1,()))) else(aD 12 z1.2.1).bind fun z14=>(dR z14.1.1).bind fun z15=>some ((z15.1.1,()),(z14.2.1,())) else if(z1.1.1 == 2)=true then(fe z1.2.1).bind fun z16=>(cG 5 z16.2.1).bind fun z17=>(cG 5 z17.2.1).bind fun z18=>(c8 (z16.1.1,z17.1.1,z18.1.1,())).bind fun z19=>some ((z19.1.1,()),(z18.2.1,())) else if(z1.1.1 == 3)=true then(aD 6 z1.2.1).bind fun z20=>inb ([⟨#[34,97,34]⟩,⟨#[34,34]⟩,⟨#[84,82,85,69]⟩,⟨#[70,65,76,83,69]⟩,⟨#[35,82,69,70,33]⟩,⟨#[34,113,34,34,34]⟩]:(List Z0)) z20.1.1 (some (((aw_ ([⟨#[34,97,34]⟩,⟨#[34,34]⟩,⟨#[84,82,85,69]⟩,⟨#[70,65,76,83,69]⟩,⟨#[35,82,69,70,33]⟩,⟨#[34,113,34,34,34]⟩]:(List Z0)) (an_ z20.1.1) ⟨#[]⟩),()),(z20.2.1,()))) else(aD 12 z1.2.1).bind fun z21=>(dR z21.1.1).bind fun z22=>some ((z22.1.1,()),(z21.2.1,())) else(cG 3 x1).bind fun z23=>if z23.1.1=true then(aD 7 z23.2.1).bind fun z24=>if(z24.1.1 == 0)=true then if(z24.1.1 == 0)=true then(fe z24.2.1).bind fun z25=>(cG 5 z25.2.1).bind fun z26=>(cG 5 z26.2.1).bind fun z27=>(c8 (z25.1.1,z26.1.1,z27.1.1,())).bind fun z28=>some ((z28.1.1,()),(z27.2.1,())) else if(z24.1.1 == 3)=true then(aD 6 z24.2.1).bind fun z29=>inb ([⟨#[34,97,34]⟩,⟨#[34,34]⟩,⟨#[84,82,85,69]⟩,⟨#[70,65,76,83,69]⟩,⟨#[35,82,69,70,33]⟩,⟨#[34,113,34,34,34]⟩]:(List Z0)) z29.1.1 (some (((aw_ ([⟨#[34,97,34]⟩,⟨#[34,34]⟩,⟨#[84,82,85,69]⟩,⟨#[70,65,76,83,69]⟩,⟨#[35,82,69,70,33]⟩,⟨#[34,113,34,34,34]⟩]:(List Z0)) (an_ z29.1.1) ⟨#[]⟩),()),(z29.2.1,()))) else(aD 12 z24.2.1).bind fun z30=>(dR z30.1.1).bind fun z31=>some ((z31.1.1,()),(z30.2.1,())) else if(z24.1.1 == 1)=true then if(z24.1.1 == 1)=true then(fe z24.2.1).bind fun z32=>(cG 5 z32.2.1).bind fun z33=>(cG 5 z33.2.1).bind fun z34=>(c8 (z32.1.1,z33.1.1,z34.1.1,())).bind fun z35=>some ((z35.1.1,()),(z34.2.1,())) else if(z24.1.1 == 3)=true then(aD 6 z24.2.1).bind fun z36=>inb ([⟨#[34,97,34]⟩,⟨#[34,34]⟩,⟨#[84,82,85,69]⟩,⟨#[70,65,76,83,69]⟩,⟨#[35,82,69,70,33]⟩,⟨#[34,113,34,34,34]⟩]:(List Z0)) z36.1.1 (some (((aw_ ([⟨#[34,97,34]⟩,⟨#[34,34]⟩,⟨#[84,82,85,69]⟩,⟨#[70,65,76,83,69]⟩,⟨#[35,82,69,70,33]⟩,⟨#[34,113,34,34,34]⟩]:(List Z0)) (an_ z36.1.1) ⟨#[]⟩),()),(z36.2.1,()))) else(aD 12 z24.2.1).bind fun z37=>(dR z37.1.1).bind fun z38=>some ((z38.1.1,()),(z37.2.1,())) else if(z24.1.1 == 2)=true then(fe z24.2.1).bind fun z39=>(cG 5 z39.2.1).bind fun z40=>(cG 5 z40.2.1).bind fun z41=>(c8 (z39.1.1,z40.1.1,z41.1.1,())).bind fun z42=>some ((z42.1.1,()),(z41.2.1,())) else if(z24.1.1 == 3)=true then(aD 6 z24.2.1).bind fun z43=>inb ([⟨#[34,97,34]⟩,⟨#[34,34]⟩,⟨#[84,82,85,69]⟩,⟨#[70,65,76,83,69]⟩,⟨#[35,82,69,70,33]⟩,⟨#[34,113,34,34,34]⟩]:(List Z0)) z43.1.1 (some (((aw_ ([⟨#[34,97,34]⟩,⟨#[34,34]⟩,⟨#[84,82,85,69]⟩,⟨#[70,65,76,83,69]⟩,⟨#[35,82,69,70,33]⟩,⟨#[34,113,34,34,34]⟩]:(List Z0)) (an_ z43.1.1) ⟨#[]⟩),()),(z43.2.1,()))) else(aD 12 z24.2.1).bind fun z44=>(dR z44.1.1).bind fun z45=>some ((z45.1.1,()),(z44.2.1,())) else(aD 8 z23.2.1).bind fun z46=>if(z46.1.1 == 0)=true then(bj (gt_ gu_ (x0 - 1)) z46.2.1).bind fun z47=>cats ⟨#[45]⟩ z47.1.1 fun y1=>some ((y1,()),(z47.2.1,())) else if(z46.1.1 == 1)=true then(bj (gt_ gu_ (x0 - 1)) z46.2.1).bind fun z48=>cats ⟨#[40]⟩ z48.1.1 fun y2=>cats y2 ⟨#[41]⟩ fun y3=>some ((y3,()),(z48.2.1,())) else if(z46.1.1 == 2)=true then if(z46.1.1 == 2)=true then(pg z46.2.1).bind fun z49=>(aD 6 z49.2.1).bind fun z50=>inb ([⟨#[83,85,77]⟩,⟨#[77,73,78]⟩,⟨#[77,65,88]⟩,⟨#[67,79,85,78,84]⟩,⟨#[65,78,68]⟩,⟨#[79,82]⟩]:(List Z0)) z50.1.1 (cats (aw_ ([⟨#[83,85,77]⟩,⟨#[77,73,78]⟩,⟨#[77,65,88]⟩,⟨#[67,79,85,78,84]⟩,⟨#[65,78,68]⟩,⟨#[79,82]⟩]:(List Z0)) (an_ z50.1.1) ⟨#[]⟩) ⟨#[40]⟩ fun y4=>(c8 (z49.1.1.1,false,false,())).bind fun z51=>cats y4 z51.1.1 fun y5=>cats y5 ⟨#[58]⟩ fun y6=>(c8 (z49.1.1.2.1,false,false,())).bind fun z52=>cats y6 z52.1.1 fun y7=>cats y7 ⟨#[44]⟩ fun y8=>(bj (gt_ gu_ (x0 - 1)) z50.2.1).bind fun z53=>cats y8 z53.1.1 fun y9=>cats y9 ⟨#[41]⟩ fun y10=>some ((y10,()),(z53.2.1,()))) else if(z46.1.1 == 4)=true then(bj (gt_ gu_ (x0 - 1)) z46.2.1).bind fun z54=>cats ⟨#[73,70,40]⟩ z54.1.1 fun y11=>cats y11 ⟨#[44]⟩ fun y12=>(bj (gt_ gu_ (x0 - 1)) z54.2.1).bind fun z55=>cats y12 z55.1.1 fun y13=>cats y13 ⟨#[44]⟩ fun y14=>(bj (gt_ gu_ (x0 - 1)) z55.2.1).bind fun z56=>cats y14 z56.1.1 fun y15=>cats y15 ⟨#[41]⟩ fun y16=>some ((y16,()),(z56.2.1,())) else if(z46.1.1 == 5)=true then(aD 3 z46.2.1).bind fun z57=>inb ([⟨#[78,79,84]⟩,⟨#[65,66,83]⟩,⟨#[76,69,78]⟩]:(List Z0)) z57.1.1 (cats (aw_ ([⟨#[78,79,84]⟩,⟨#[65,66,83]⟩,⟨#[76,69,78]⟩]:(List Z0)) (an_ z57.1.1) ⟨#[]⟩) ⟨#[40]⟩ fun y17=>(bj (gt_ gu_ (x0 - 1)) z57.2.1).bind fun z58=>cats y17 z58.1.1 fun y18=>cats y18 ⟨#[41]⟩ fun y19=>some ((y19,()),(z58.2.1,()))) else(bj (gt_ gu_ (x0 - 1)) z46.2.1).bind fun z59=>(aD 11 z59.2.1).bind fun z60=>(lf (gt_ gu_ (1+z60.1.1))).bind fun z61=>cats z59.1.1 z61.1.1 fun y20=>(bj (gt_ gu_ (x0 - 1)) z60.2.1).bind fun z62=>cats y20 z62.1.1 fun y21=>some ((y21,()),(z62.2.1,())) else if(z46.1.1 == 3)=true then(pg z46.2.1).bind fun z63=>(aD 6 z63.2.1).bind fun z64=>inb ([⟨#[83,85,77]⟩,⟨#[77,73,78]⟩,⟨#[77,65,88]⟩,⟨#[67,79,85,78,84]⟩,⟨#[65,78,68]⟩,⟨#[79,82]⟩]:(List Z0)) z64.1.1 (cats (aw_ ([⟨#[83,85,77]⟩,⟨#[77,73,78]⟩,⟨#[77,65,88]⟩,⟨#[67,79,85,78,84]⟩,⟨#[65,78,68]⟩,⟨#[79,82]⟩]:(List Z0)) (an_ z64.1.1) ⟨#[]⟩) ⟨#[40]⟩ fun y22=>(c8 (z63.1.1.1,false,false,())).bind fun z65=>cats y22 z65.1.1 fun y23=>cats y23 ⟨#[58]⟩ fun y24=>(c8 (z63.1.1.2.1,false,false,())).bind fun z66=>cats y24 z66.1.1 fun y25=>cats y25 ⟨#[44]⟩ fun y26=>(bj (gt_ gu_ (x0 - 1)) z64.2.1).bind fun z67=>cats y26 z67.1.1 fun y27=>cats y27 ⟨#[41]⟩ fun y28=>some ((y28,()),(z67.2.1,()))) else if(z46.1.1 == 4)=true then(bj (gt_ gu_ (x0 - 1)) z46.2.1).bind fun z68=>cats ⟨#[73,70,40]⟩ z68.1.1 fun y29=>cats y29 ⟨#[44]⟩ fun y30=>(bj (gt_ gu_ (x0 - 1)) z68.2.1).bind fun z69=>cats y30 z69.1.1 fun y31=>cats y31 ⟨#[44]⟩ fun y32=>(bj (gt_ gu_ (x0 - 1)) z69.2.1).bind fun z70=>cats y32 z70.1.1 fun y33=>cats y33 ⟨#[41]⟩ fun y34=>some ((y34,()),(z70.2.1,())) else if(z46.1.1 == 5)=true then(aD 3 z46.2.1).bind fun z71=>inb ([⟨#[78,79,84]⟩,⟨#[65,66,83]⟩,⟨#[76,69,78]⟩]:(List Z0)) z71.1.1 (cats (aw_ ([⟨#[78,79,84]⟩,⟨#[65,66,83]⟩,⟨#[76,69,78]⟩]:(List Z0)) (an_ z71.1.1) ⟨#[]⟩) ⟨#[40]⟩ fun y35=>(bj (gt_ gu_ (x0 - 1)) z71.2.1).bind fun z72=>cats y35 z72.1.1 fun y36=>cats y36 ⟨#[41]⟩ fun y37=>some ((y37,()),(z72.2.1,()))) else(bj (gt_ gu_ (x0 - 1)) z46.2.1).bind fun z73=>(aD 11 z73.2.1).bind fun z74=>(lf (gt_ gu_ (1+z74.1.1))).bind fun z75=>cats z73.1.1 z75.1.1 fun y38=>(bj (gt_ gu_ (x0 - 1)) z74.2.1).bind fun z76=>cats y38 z76.1.1 fun y39=>some ((y39,()),(z76.2.1,())):=av
theorem Jm {x0}:ym x0=nJ 0 0 x0:=av
theorem Jn {x0 x1 x2}:yn x0 x1 x2=(aD 8 x2).bind fun z1=>if(z1.1.1 == 0)=true then some ((x0,()),(z1.2.1,())) else if(z1.1.1 == 1)=true then some ((x1,()),(z1.2.1,())) else if(decide (x1 < x0))=true then some ((x0,()),(z1.2.1,())) else(ym z1.2.1).bind fun z2=>nz (IntKind.u64.wrap (gt_ gu_ ((gt_ gu_ (x1 - x0))+1))) (some (((gt_ gu_ (x0+(gt_ gu_ (du_ (Int.fdiv z2.1.1 (2 ^ min (an_ 1) (IntKind.bits .u64))) (IntKind.u64.wrap (gt_ gu_ ((gt_ gu_ (x1 - x0))+1))))))),()),(z2.2.1,()))):=av
theorem Lm {x0 x1 x2}:AN x0 x1 x2=(cG 24 x2).bind fun z1=>if z1.1.1=true then(aD 4 z1.2.1).bind fun z2=>inb ([(gt_ gu_ (x0 - 1)),(gt_ gu_ (x1+1)),(-9223372036854775808),9223372036854775807]:(List Int)) z2.1.1 (some (((aw_ ([(gt_ gu_ (x0 - 1)),(gt_ gu_ (x1+1)),(-9223372036854775808),9223372036854775807]:(List Int)) (an_ z2.1.1) 0),()),(z2.2.1,()))) else(yn x0 x1 z1.2.1).bind fun z3=>some ((z3.1.1,()),(z3.2.1,())):=av
theorem Jo {x0}:pg x0=(fe x0).bind fun z1=>(fe z1.2.1).bind fun z2=>(cG 20 z2.2.1).bind fun z3=>if z3.1.1=true then(AN 1 99 z3.2.1).bind fun z4=>some (((((if z2.1.1.1 < z1.1.1.1 then z2.1.1.1 else z1.1.1.1),(if z2.1.1.2.1 < z1.1.1.2.1 then z2.1.1.2.1 else z1.1.1.2.1),()),((if z1.1.1.1 < z2.1.1.1 then z2.1.1.1 else z1.1.1.1),z4.1.1,()),()),()),(z4.2.1,())) else some (((((if z2.1.1.1 < z1.1.1.1 then z2.1.1.1 else z1.1.1.1),(if z2.1.1.2.1 < z1.1.1.2.1 then z2.1.1.2.1 else z1.1.1.2.1),()),((if z1.1.1.1 < z2.1.1.1 then z2.1.1.1 else z1.1.1.1),(if z1.1.1.2.1 < z2.1.1.2.1 then z2.1.1.2.1 else z1.1.1.2.1),()),()),()),(z3.2.1,())):=av
theorem Qf {x0}:lf x0=inb ([⟨#[]⟩,⟨#[43]⟩,⟨#[45]⟩,⟨#[42]⟩,⟨#[47]⟩,⟨#[38]⟩,⟨#[61]⟩,⟨#[60,62]⟩,⟨#[60]⟩,⟨#[60,61]⟩,⟨#[62]⟩,⟨#[62,61]⟩]:(List Z0)) x0 (some (((aw_ ([⟨#[]⟩,⟨#[43]⟩,⟨#[45]⟩,⟨#[42]⟩,⟨#[47]⟩,⟨#[38]⟩,⟨#[61]⟩,⟨#[60,62]⟩,⟨#[60]⟩,⟨#[60,61]⟩,⟨#[62]⟩,⟨#[62,61]⟩]:(List Z0)) (an_ x0) ⟨#[]⟩),()),())):=av
theorem GT {x0}:nh x0=(aD 8 x0).bind fun z1=>if(z1.1.1 == 0)=true then if(z1.1.1 == 0)=true then(bj 2 z1.2.1).bind fun z2=>cats ⟨#[61]⟩ z2.1.1 fun y1=>some ((y1,()),(z2.2.1,())) else if(z1.1.1 == 3)=true then if(z1.1.1 == 3)=true then(aD 20 z1.2.1).bind fun z3=>(dR z3.1.1).bind fun z4=>some ((z4.1.1,()),(z3.2.1,())) else if(z1.1.1 == 5)=true then(aD 8 z1.2.1).bind fun z5=>inb ([⟨#[84,82,85,69]⟩,⟨#[104,101,108,108,111]⟩,⟨#[39,49,50]⟩,⟨#[35,68,73,86,33]⟩,⟨#[45,53]⟩,⟨#[48,48,55]⟩,⟨#[39]⟩,⟨#[35,120]⟩]:(List Z0)) z5.1.1 (some (((aw_ ([⟨#[84,82,85,69]⟩,⟨#[104,101,108,108,111]⟩,⟨#[39,49,50]⟩,⟨#[35,68,73,86,33]⟩,⟨#[45,53]⟩,⟨#[48,48,55]⟩,⟨#[39]⟩,⟨#[35,120]⟩]:(List Z0)) (an_ z5.1.1) ⟨#[]⟩),()),(z5.2.1,()))) else if(z1.1.1 == 6)=true then some ((⟨#[]⟩,()),(z1.2.1,())) else(bj 1 z1.2.1).bind fun z6=>cats ⟨#[61]⟩ z6.1.1 fun y2=>some ((y2,()),(z6.2.1,())) else if(z1.1.1 == 4)=true then(aD 20 z1.2.1).bind fun z7=>(dR z7.1.1).bind fun z8=>some ((z8.1.1,()),(z7.2.1,())) else if(z1.1.1 == 5)=true then(aD 8 z1.2.1).bind fun z9=>inb ([⟨#[84,82,85,69]⟩,⟨#[104,101,108,108,111]⟩,⟨#[39,49,50]⟩,⟨#[35,68,73,86,33]⟩,⟨#[45,53]⟩,⟨#[48,48,55]⟩,⟨#[39]⟩,⟨#[35,120]⟩]:(List Z0)) z9.1.1 (some (((aw_ ([⟨#[84,82,85,69]⟩,⟨#[104,101,108,108,111]⟩,⟨#[39,49,50]⟩,⟨#[35,68,73,86,33]⟩,⟨#[45,53]⟩,⟨#[48,48,55]⟩,⟨#[39]⟩,⟨#[35,120]⟩]:(List Z0)) (an_ z9.1.1) ⟨#[]⟩),()),(z9.2.1,()))) else if(z1.1.1 == 6)=true then some ((⟨#[]⟩,()),(z1.2.1,())) else(bj 1 z1.2.1).bind fun z10=>cats ⟨#[61]⟩ z10.1.1 fun y3=>some ((y3,()),(z10.2.1,())) else if(z1.1.1 == 1)=true then if(z1.1.1 == 1)=true then(bj 2 z1.2.1).bind fun z11=>cats ⟨#[61]⟩ z11.1.1 fun y4=>some ((y4,()),(z11.2.1,())) else if(z1.1.1 == 3)=true then if(z1.1.1 == 3)=true then(aD 20 z1.2.1).bind fun z12=>(dR z12.1.1).bind fun z13=>some ((z13.1.1,()),(z12.2.1,())) else if(z1.1.1 == 5)=true then(aD 8 z1.2.1).bind fun z14=>inb ([⟨#[84,82,85,69]⟩,⟨#[104,101,108,108,111]⟩,⟨#[39,49,50]⟩,⟨#[35,68,73,86,33]⟩,⟨#[45,53]⟩,⟨#[48,48,55]⟩,⟨#[39]⟩,⟨#[35,120]⟩]:(List Z0)) z14.1.1 (some (((aw_ ([⟨#[84,82,85,69]⟩,⟨#[104,101,108,108,111]⟩,⟨#[39,49,50]⟩,⟨#[35,68,73,86,33]⟩,⟨#[45,53]⟩,⟨#[48,48,55]⟩,⟨#[39]⟩,⟨#[35,120]⟩]:(List Z0)) (an_ z14.1.1) ⟨#[]⟩),()),(z14.2.1,()))) else if(z1.1.1 == 6)=true then some ((⟨#[]⟩,()),(z1.2.1,())) else(bj 1 z1.2.1).bind fun z15=>cats ⟨#[61]⟩ z15.1.1 fun y5=>some ((y5,()),(z15.2.1,())) else if(z1.1.1 == 4)=true then(aD 20 z1.2.1).bind fun z16=>(dR z16.1.1).bind fun z17=>some ((z17.1.1,()),(z16.2.1,())) else if(z1.1.1 == 5)=true then(aD 8 z1.2.1).bind fun z18=>inb ([⟨#[84,82,85,69]⟩,⟨#[104,101,108,108,111]⟩,⟨#[39,49,50]⟩,⟨#[35,68,73,86,33]⟩,⟨#[45,53]⟩,⟨#[48,48,55]⟩,⟨#[39]⟩,⟨#[35,120]⟩]:(List Z0)) z18.1.1 (some (((aw_ ([⟨#[84,82,85,69]⟩,⟨#[104,101,108,108,111]⟩,⟨#[39,49,50]⟩,⟨#[35,68,73,86,33]⟩,⟨#[45,53]⟩,⟨#[48,48,55]⟩,⟨#[39]⟩,⟨#[35,120]⟩]:(List Z0)) (an_ z18.1.1) ⟨#[]⟩),()),(z18.2.1,()))) else if(z1.1.1 == 6)=true then some ((⟨#[]⟩,()),(z1.2.1,())) else(bj 1 z1.2.1).bind fun z19=>cats ⟨#[61]⟩ z19.1.1 fun y6=>some ((y6,()),(z19.2.1,())) else if(z1.1.1 == 2)=true then(bj 2 z1.2.1).bind fun z20=>cats ⟨#[61]⟩ z20.1.1 fun y7=>some ((y7,()),(z20.2.1,())) else if(z1.1.1 == 3)=true then if(z1.1.1 == 3)=true then(aD 20 z1.2.1).bind fun z21=>(dR z21.1.1).bind fun z22=>some ((z22.1.1,()),(z21.2.1,())) else if(z1.1.1 == 5)=true then(aD 8 z1.2.1).bind fun z23=>inb ([⟨#[84,82,85,69]⟩,⟨#[104,101,108,108,111]⟩,⟨#[39,49,50]⟩,⟨#[35,68,73,86,33]⟩,⟨#[45,53]⟩,⟨#[48,48,55]⟩,⟨#[39]⟩,⟨#[35,120]⟩]:(List Z0)) z23.1.1 (some (((aw_ ([⟨#[84,82,85,69]⟩,⟨#[104,101,108,108,111]⟩,⟨#[39,49,50]⟩,⟨#[35,68,73,86,33]⟩,⟨#[45,53]⟩,⟨#[48,48,55]⟩,⟨#[39]⟩,⟨#[35,120]⟩]:(List Z0)) (an_ z23.1.1) ⟨#[]⟩),()),(z23.2.1,()))) else if(z1.1.1 == 6)=true then some ((⟨#[]⟩,()),(z1.2.1,())) else(bj 1 z1.2.1).bind fun z24=>cats ⟨#[61]⟩ z24.1.1 fun y8=>some ((y8,()),(z24.2.1,())) else if(z1.1.1 == 4)=true then(aD 20 z1.2.1).bind fun z25=>(dR z25.1.1).bind fun z26=>some ((z26.1.1,()),(z25.2.1,())) else if(z1.1.1 == 5)=true then(aD 8 z1.2.1).bind fun z27=>inb ([⟨#[84,82,85,69]⟩,⟨#[104,101,108,108,111]⟩,⟨#[39,49,50]⟩,⟨#[35,68,73,86,33]⟩,⟨#[45,53]⟩,⟨#[48,48,55]⟩,⟨#[39]⟩,⟨#[35,120]⟩]:(List Z0)) z27.1.1 (some (((aw_ ([⟨#[84,82,85,69]⟩,⟨#[104,101,108,108,111]⟩,⟨#[39,49,50]⟩,⟨#[35,68,73,86,33]⟩,⟨#[45,53]⟩,⟨#[48,48,55]⟩,⟨#[39]⟩,⟨#[35,120]⟩]:(List Z0)) (an_ z27.1.1) ⟨#[]⟩),()),(z27.2.1,()))) else if(z1.1.1 == 6)=true then some ((⟨#[]⟩,()),(z1.2.1,())) else(bj 1 z1.2.1).bind fun z28=>cats ⟨#[61]⟩ z28.1.1 fun y9=>some ((y9,()),(z28.2.1,())):=av
theorem Np {x0}:tE x0=qN x0 0:=av
theorem Fj {x0 x1 x2 x3}:jZ x0 x1 x2 x3=lw x0 x1 x2 x3:=av
theorem Nq {x0 x1 x2 x3 x4}:dX x0 x1 x2 x3 x4=(jZ x1 x2 x3 x4).bind fun z1=>if z1.2.1.2.2.1=true then some ((false,()),(z1.2.1,())) else if(decide ((gt_ gu_ (z1.2.1.2.1+(ao_ x0:Int))) > (ao_ z1.2.1.1:Int)))=true then some ((false,()),(z1.2.1,())) else uH z1.2.1.1 z1.2.1.2.1 (gt_ gu_ (z1.2.1.2.1+(ao_ x0:Int))) fun y1=>if(! (Z6 y1 == Z6 x0))=true then some ((false,()),(z1.2.1,())) else some ((true,()),((z1.2.1.1,(gt_ gu_ (z1.2.1.2.1+(ao_ x0:Int))),z1.2.1.2.2.1,z1.2.1.2.2.2.1,()),())):=av
theorem A5 {x0 x1 x2 x3 x4}:ff x0 x1 x2 x3 x4=if x3=true then some ((0,()),((x1,x2,x3,x4,()),())) else if(x0 == 5)=true then(uN x1 x2 x3 x4).bind fun z1=>some ((z1.1.1,()),(z1.2.1,())) else(ff (gt_ gu_ (x0+1)) x1 x2 x3 x4).bind fun z2=>dH x0 z2.1.1 z2.2.1.1 z2.2.1.2.1 z2.2.1.2.2.1 z2.2.1.2.2.2.1:=av
theorem Nr {x0}:iO x0=if(x0.1 == 0)=true then if(x0.2.1 == 0)=true then some (((Z6 x0.2.2.1 == Z6 ⟨#[]⟩),()),()) else some ((false,()),()) else if(x0.1 == 1)=true then(iq x0.2.1 (-1000000000000000) 1000000000000000).bind fun z1=>if z1.1.1=true then some (((Z6 x0.2.2.1 == Z6 ⟨#[]⟩),()),()) else some ((false,()),()) else if(x0.1 == 2)=true then if(x0.2.1 == 0)=true then(tE x0.2.2.1).bind fun z2=>some ((z2.1.1,()),()) else some ((false,()),()) else if(x0.1 == 3)=true then(iq x0.2.1 0 1).bind fun z3=>if z3.1.1=true then some (((Z6 x0.2.2.1 == Z6 ⟨#[]⟩),()),()) else some ((false,()),()) else if(x0.1 == 4)=true then(iq x0.2.1 1 5).bind fun z4=>if z4.1.1=true then some (((Z6 x0.2.2.1 == Z6 ⟨#[]⟩),()),()) else some ((false,()),()) else some ((false,()),()):=av
theorem Qg {x0}:wO x0=(c7 x0.1).bind fun z1=>if z1.1.1=true then(c7 x0.2.1).bind fun z2=>if z2.1.1=true then if(decide (x0.1.1≤x0.2.1.1))=true then some (((decide (x0.1.2.1≤x0.2.1.2.1)),()),()) else some ((false,()),()) else some ((false,()),()) else some ((false,()),()):=av
end Go.Proofs.YtipnjpfdlolhmaaGreatDoor.Abs
namespace Go.Proofs.YtipnjpfdlolhmaaGreatDoor.Abs
open Go Go.Proofs.YtipnjpfdlolhmaaGreatDoor
theorem Qh {x0 x1}:GI x0 x1=if(x0 == 1)=true then if(x0 == 1)=true then if(decide (x1≥1))=true then some (((decide (x1≤10)),()),()) else some ((false,()),()) else if(x0 == 5)=true then if(x1 == 2)=true then some ((true,()),()) else some (((x1 == 3),()),()) else if(x0 == 8)=true then if(x0 == 8)=true then some (((x1 == 1),()),()) else some ((false,()),()) else if(x0 == 9)=true then if(x0 == 9)=true then some (((x1 == 1),()),()) else some ((false,()),()) else if(x0 == 10)=true then some (((x1 == 1),()),()) else some ((false,()),()) else if(x0 == 2)=true then if(x0 == 2)=true then if(decide (x1≥1))=true then some (((decide (x1≤10)),()),()) else some ((false,()),()) else if(x0 == 5)=true then if(x1 == 2)=true then some ((true,()),()) else some (((x1 == 3),()),()) else if(x0 == 8)=true then if(x0 == 8)=true then some (((x1 == 1),()),()) else some ((false,()),()) else if(x0 == 9)=true then if(x0 == 9)=true then some (((x1 == 1),()),()) else some ((false,()),()) else if(x0 == 10)=true then some (((x1 == 1),()),()) else some ((false,()),()) else if(x0 == 3)=true then if(x0 == 3)=true then if(decide (x1≥1))=true then some (((decide (x1≤10)),()),()) else some ((false,()),()) else if(x0 == 5)=true then if(x1 == 2)=true then some ((true,()),()) else some (((x1 == 3),()),()) else if(x0 == 8)=true then if(x0 == 8)=true then some (((x1 == 1),()),()) else some ((false,()),()) else if(x0 == 9)=true then if(x0 == 9)=true then some (((x1 == 1),()),()) else some ((false,()),()) else if(x0 == 10)=true then some (((x1 == 1),()),()) else some ((false,()),()) else if(x0 == 4)=true then if(x0 == 4)=true then if(decide (x1≥1))=true then some (((decide (x1≤10)),()),()) else some ((false,()),()) else if(x0 == 5)=true then if(x1 == 2)=true then some ((true,()),()) else some (((x1 == 3),()),()) else if(x0 == 8)=true then if(x0 == 8)=true then some (((x1 == 1),()),()) else some ((false,()),()) else if(x0 == 9)=true then if(x0 == 9)=true then some (((x1 == 1),()),()) else some ((false,()),()) else if(x0 == 10)=true then some (((x1 == 1),()),()) else some ((false,()),()) else if(x0 == 6)=true then if(x0 == 6)=true then if(decide (x1≥1))=true then some (((decide (x1≤10)),()),()) else some ((false,()),()) else if(x0 == 5)=true then if(x1 == 2)=true then some ((true,()),()) else some (((x1 == 3),()),()) else if(x0 == 8)=true then if(x0 == 8)=true then some (((x1 == 1),()),()) else some ((false,()),()) else if(x0 == 9)=true then if(x0 == 9)=true then some (((x1 == 1),()),()) else some ((false,()),()) else if(x0 == 10)=true then some (((x1 == 1),()),()) else some ((false,()),()) else if(x0 == 7)=true then if(decide (x1≥1))=true then some (((decide (x1≤10)),()),()) else some ((false,()),()) else if(x0 == 5)=true then if(x1 == 2)=true then some ((true,()),()) else some (((x1 == 3),()),()) else if(x0 == 8)=true then if(x0 == 8)=true then some (((x1 == 1),()),()) else some ((false,()),()) else if(x0 == 9)=true then if(x0 == 9)=true then some (((x1 == 1),()),()) else some ((false,()),()) else if(x0 == 10)=true then some (((x1 == 1),()),()) else some ((false,()),()):=av
theorem Lo {x0}:bH x0=if(x0.1 == 1)=true then if(x0.2.1 == 0)=true then if(bP br x0.2.2.2.1 ((0,0,()),false,false,()))=true then if(bP br x0.2.2.2.2.1 ((0,0,()),false,false,()))=true then if((ac_ x0.2.2.2.2.2.1:Int) == 0)=true then(iO x0.2.2.1).bind fun z1=>if z1.1.1=true then if(x0.2.2.1.1 != 0)=true then if(x0.2.2.1.1 != 1)=true then some ((true,()),()) else some (((decide (x0.2.2.1.2.1≥0)),()),()) else some ((false,()),()) else some ((false,()),()) else some ((false,()),()) else some ((false,()),()) else some ((false,()),()) else some ((false,()),()) else if(x0.1 == 2)=true then if(x0.2.1 == 0)=true then if(bP aq x0.2.2.1 (0,0,⟨#[]⟩,()))=true then if(bP br x0.2.2.2.2.1 ((0,0,()),false,false,()))=true then if((ac_ x0.2.2.2.2.2.1:Int) == 0)=true then(c7 x0.2.2.2.1.1).bind fun z2=>some ((z2.1.1,()),()) else some ((false,()),()) else some ((false,()),()) else some ((false,()),()) else some ((false,()),()) else if(x0.1 == 3)=true then if(x0.2.1 == 0)=true then if(bP aq x0.2.2.1 (0,0,⟨#[]⟩,()))=true then if((ac_ x0.2.2.2.2.2.1:Int) == 0)=true then(wO (x0.2.2.2.1.1,x0.2.2.2.2.1.1,())).bind fun z3=>some ((z3.1.1,()),()) else some ((false,()),()) else some ((false,()),()) else some ((false,()),()) else if(x0.1 == 4)=true then if(x0.2.1 == 0)=true then if(bP aq x0.2.2.1 (0,0,⟨#[]⟩,()))=true then if(bP br x0.2.2.2.1 ((0,0,()),false,false,()))=true then if(bP br x0.2.2.2.2.1 ((0,0,()),false,false,()))=true then some ((((ac_ x0.2.2.2.2.2.1:Int) == 1),()),()) else some ((false,()),()) else some ((false,()),()) else some ((false,()),()) else some ((false,()),()) else if(x0.1 == 5)=true then(iq x0.2.1 1 11).bind fun z4=>if z4.1.1=true then if(bP aq x0.2.2.1 (0,0,⟨#[]⟩,()))=true then if(bP br x0.2.2.2.1 ((0,0,()),false,false,()))=true then if(bP br x0.2.2.2.2.1 ((0,0,()),false,false,()))=true then some ((((ac_ x0.2.2.2.2.2.1:Int) == 2),()),()) else some ((false,()),()) else some ((false,()),()) else some ((false,()),()) else some ((false,()),()) else if(x0.1 == 6)=true then(GI x0.2.1 (ac_ x0.2.2.2.2.2.1:Int)).bind fun z5=>if z5.1.1=true then if(bP aq x0.2.2.1 (0,0,⟨#[]⟩,()))=true then if(bP br x0.2.2.2.1 ((0,0,()),false,false,()))=true then some (((bP br x0.2.2.2.2.1 ((0,0,()),false,false,())),()),()) else some ((false,()),()) else some ((false,()),()) else some ((false,()),()) else some ((false,()),()):=av
theorem Lp {x0 x1 x2 x3 x4}:cm x0 x1 x2 x3 x4=app x4 ([x0]:(List ab)) 120 fun y1=>if(decide ((ac_ y1:Int) > 60))=true then some (((gt_ gu_ ((ac_ y1:Int) - 1)),()),((x1,x2,true,y1,()),())) else(bH x0).bind fun z1=>if(!z1.1.1)=true then some (((gt_ gu_ ((ac_ y1:Int) - 1)),()),((x1,x2,true,y1,()),())) else some (((gt_ gu_ ((ac_ y1:Int) - 1)),()),((x1,x2,x3,y1,()),())):=av
theorem Jp {x0 x1 x2 x3}:yo x0 x1 x2 x3=kQ ⟨#[]⟩ x0 x1 x2 x3:=av
theorem Qi {x0}:wP x0=inb ([⟨#[]⟩,⟨#[35,68,73,86,33]⟩,⟨#[35,84,89,80,69,33]⟩,⟨#[35,82,69,70,33]⟩,⟨#[35,79,86,69,82,33]⟩,⟨#[35,67,89,67,76,69,33]⟩]:(List Z0)) x0 (some (((aw_ ([⟨#[]⟩,⟨#[35,68,73,86,33]⟩,⟨#[35,84,89,80,69,33]⟩,⟨#[35,82,69,70,33]⟩,⟨#[35,79,86,69,82,33]⟩,⟨#[35,67,89,67,76,69,33]⟩]:(List Z0)) (an_ x0) ⟨#[]⟩),()),())):=av
theorem Ns {x0}:yp x0=some (((4,x0,⟨#[]⟩,()),()),()):=av
theorem Jq {x0 x1 x2 x3}:mt x0 x1 x2 x3=d7 x1 x0 x1 x2 x3:=av
theorem Va {x0}:JW x0=inb ([⟨#[]⟩,⟨#[83,85,77]⟩,⟨#[77,73,78]⟩,⟨#[77,65,88]⟩,⟨#[67,79,85,78,84]⟩,⟨#[73,70]⟩,⟨#[65,78,68]⟩,⟨#[79,82]⟩,⟨#[78,79,84]⟩,⟨#[65,66,83]⟩,⟨#[76,69,78]⟩]:(List Z0)) x0 (some (((aw_ ([⟨#[]⟩,⟨#[83,85,77]⟩,⟨#[77,73,78]⟩,⟨#[77,65,88]⟩,⟨#[67,79,85,78,84]⟩,⟨#[73,70]⟩,⟨#[65,78,68]⟩,⟨#[79,82]⟩,⟨#[78,79,84]⟩,⟨#[65,66,83]⟩,⟨#[76,69,78]⟩]:(List Z0)) (an_ x0) ⟨#[]⟩),()),())):=av
theorem Nt {x0}:qa x0=vR x0 1:=av
theorem SL {x0 x1}:dk x0 x1=if(decide ((ao_ x0:Int) < 1))=true then some ((0,false,()),()) else if(decide ((ao_ x0:Int) > x1))=true then some ((0,false,()),()) else ex x0 0 fun y1=>if(y1 == 48)=true then if(decide ((ao_ x0:Int) > 1))=true then some ((0,false,()),()) else oC x0 0 0 else oC x0 0 0:=av
theorem Jr {x0}:mu x0=if(decide ((ao_ x0:Int) > 0))=true then ex x0 0 fun y1=>if(y1 == 36)=true then iJ x0 1 fun y2=>jm y2 0 0 0 false false 0 0 true false else jm x0 0 0 0 false false 0 0 false false else jm x0 0 0 0 false false 0 0 false false:=av
theorem Lq {x0 x1 x2 x3}:ra x0 x1 x2 x3=(jZ x0 x1 x2 x3).bind fun z1=>(mt z1.2.1.1 z1.2.1.2.1 z1.2.1.2.2.1 z1.2.1.2.2.2.1).bind fun z2=>(mu z2.1.1).bind fun z3=>if z3.1.2.1=true then(dX ⟨#[58]⟩ z2.2.1.1 z2.2.1.2.1 z2.2.1.2.2.1 z2.2.1.2.2.2.1).bind fun z4=>if z4.1.1=true then(jZ z4.2.1.1 z4.2.1.2.1 z4.2.1.2.2.1 z4.2.1.2.2.2.1).bind fun z5=>(mt z5.2.1.1 z5.2.1.2.1 z5.2.1.2.2.1 z5.2.1.2.2.2.1).bind fun z6=>(mu z6.1.1).bind fun z7=>if(!z7.1.2.1)=true then some ((0,()),((z6.2.1.1,z6.2.1.2.1,true,z6.2.1.2.2.2.1,()),())) else(cm (3,0,(0,0,⟨#[]⟩,()),z3.1.1,z7.1.1,([]:(List Int)),()) z6.2.1.1 z6.2.1.2.1 z6.2.1.2.2.1 z6.2.1.2.2.2.1).bind fun z8=>some ((z8.1.1,()),(z8.2.1,())) else(ff 1 z4.2.1.1 z1.2.1.2.1 z4.2.1.2.2.1 z4.2.1.2.2.2.1).bind fun z9=>some ((z9.1.1,()),(z9.2.1,())) else(ff 1 z2.2.1.1 z1.2.1.2.1 z2.2.1.2.2.1 z2.2.1.2.2.2.1).bind fun z10=>some ((z10.1.1,()),(z10.2.1,())):=av
theorem Js {x0 x1 x2 x3 x4}:yq x0 x1 x2 x3 x4=rH x0 x1 x2 x3 x4 ([]:(List Int)):=av
theorem Jt {x0}:r8 x0=if(Z6 x0 == Z6 ⟨#[]⟩)=true then some (((0,0,⟨#[]⟩,()),true,()),()) else ex x0 0 fun y1=>if(y1 == 39)=true then iJ x0 1 fun y2=>aN 0 0 ⟨#[]⟩ 2 0 y2 else if(Z6 x0 == Z6 ⟨#[84,82,85,69]⟩)=true then if(Z6 x0 == Z6 ⟨#[84,82,85,69]⟩)=true then if(Z6 x0 == Z6 ⟨#[84,82,85,69]⟩)=true then aN 0 0 ⟨#[]⟩ 3 1 ⟨#[]⟩ else aN 0 0 ⟨#[]⟩ 3 0 ⟨#[]⟩ else ex x0 0 fun y3=>if(y3 == 35)=true then fi x0 1 0 0 ⟨#[]⟩ 4 0 ⟨#[]⟩ else ex x0 0 fun y4=>if(y4 == 45)=true then iJ x0 1 fun y5=>(dk y5 16).bind fun z1=>if(!z1.1.2.1)=true then some (((0,0,⟨#[]⟩,()),false,()),()) else if(y4 == 45)=true then if(z1.1.1 == 0)=true then some (((0,0,⟨#[]⟩,()),false,()),()) else if(y4 == 45)=true then aN 0 0 ⟨#[]⟩ 1 (gt_ gu_ (0 - z1.1.1)) ⟨#[]⟩ else aN 0 0 ⟨#[]⟩ 1 z1.1.1 ⟨#[]⟩ else if(y4 == 45)=true then aN 0 0 ⟨#[]⟩ 1 (gt_ gu_ (0 - z1.1.1)) ⟨#[]⟩ else aN 0 0 ⟨#[]⟩ 1 z1.1.1 ⟨#[]⟩ else(dk x0 16).bind fun z2=>if(!z2.1.2.1)=true then some (((0,0,⟨#[]⟩,()),false,()),()) else if(y4 == 45)=true then if(z2.1.1 == 0)=true then some (((0,0,⟨#[]⟩,()),false,()),()) else if(y4 == 45)=true then aN 0 0 ⟨#[]⟩ 1 (gt_ gu_ (0 - z2.1.1)) ⟨#[]⟩ else aN 0 0 ⟨#[]⟩ 1 z2.1.1 ⟨#[]⟩ else if(y4 == 45)=true then aN 0 0 ⟨#[]⟩ 1 (gt_ gu_ (0 - z2.1.1)) ⟨#[]⟩ else aN 0 0 ⟨#[]⟩ 1 z2.1.1 ⟨#[]⟩ else if(Z6 x0 == Z6 ⟨#[70,65,76,83,69]⟩)=true then if(Z6 x0 == Z6 ⟨#[84,82,85,69]⟩)=true then aN 0 0 ⟨#[]⟩ 3 1 ⟨#[]⟩ else aN 0 0 ⟨#[]⟩ 3 0 ⟨#[]⟩ else ex x0 0 fun y6=>if(y6 == 35)=true then fi x0 1 0 0 ⟨#[]⟩ 4 0 ⟨#[]⟩ else ex x0 0 fun y7=>if(y7 == 45)=true then iJ x0 1 fun y8=>(dk y8 16).bind fun z3=>if(!z3.1.2.1)=true then some (((0,0,⟨#[]⟩,()),false,()),()) else if(y7 == 45)=true then if(z3.1.1 == 0)=true then some (((0,0,⟨#[]⟩,()),false,()),()) else if(y7 == 45)=true then aN 0 0 ⟨#[]⟩ 1 (gt_ gu_ (0 - z3.1.1)) ⟨#[]⟩ else aN 0 0 ⟨#[]⟩ 1 z3.1.1 ⟨#[]⟩ else if(y7 == 45)=true then aN 0 0 ⟨#[]⟩ 1 (gt_ gu_ (0 - z3.1.1)) ⟨#[]⟩ else aN 0 0 ⟨#[]⟩ 1 z3.1.1 ⟨#[]⟩ else(dk x0 16).bind fun z4=>if(!z4.1.2.1)=true then some (((0,0,⟨#[]⟩,()),false,()),()) else if(y7 == 45)=true then if(z4.1.1 == 0)=true then some (((0,0,⟨#[]⟩,()),false,()),()) else if(y7 == 45)=true then aN 0 0 ⟨#[]⟩ 1 (gt_ gu_ (0 - z4.1.1)) ⟨#[]⟩ else aN 0 0 ⟨#[]⟩ 1 z4.1.1 ⟨#[]⟩ else if(y7 == 45)=true then aN 0 0 ⟨#[]⟩ 1 (gt_ gu_ (0 - z4.1.1)) ⟨#[]⟩ else aN 0 0 ⟨#[]⟩ 1 z4.1.1 ⟨#[]⟩:=av
theorem Lr {x0 x1 x2 x3}:uN x0 x1 x2 x3=(dX ⟨#[45]⟩ x0 x1 x2 x3).bind fun z1=>if z1.1.1=true then(ff 5 z1.2.1.1 z1.2.1.2.1 z1.2.1.2.2.1 z1.2.1.2.2.2.1).bind fun z2=>(cm (4,0,(0,0,⟨#[]⟩,()),((0,0,()),false,false,()),((0,0,()),false,false,()),([z2.1.1]:(List Int)),()) z2.2.1.1 z2.2.1.2.1 z2.2.1.2.2.1 z2.2.1.2.2.2.1).bind fun z3=>some ((z3.1.1,()),(z3.2.1,())) else(dX ⟨#[40]⟩ z1.2.1.1 z1.2.1.2.1 z1.2.1.2.2.1 z1.2.1.2.2.2.1).bind fun z4=>if z4.1.1=true then(ff 1 z4.2.1.1 z4.2.1.2.1 z4.2.1.2.2.1 z4.2.1.2.2.2.1).bind fun z5=>(dX ⟨#[41]⟩ z5.2.1.1 z5.2.1.2.1 z5.2.1.2.2.1 z5.2.1.2.2.2.1).bind fun z6=>if(!z6.1.1)=true then some ((z5.1.1,()),((z6.2.1.1,z6.2.1.2.1,true,z6.2.1.2.2.2.1,()),())) else some ((z5.1.1,()),(z6.2.1,())) else(dX ⟨#[34]⟩ z4.2.1.1 z4.2.1.2.1 z4.2.1.2.2.1 z4.2.1.2.2.2.1).bind fun z7=>if z7.1.1=true then(yo z7.2.1.1 z7.2.1.2.1 z7.2.1.2.2.1 z7.2.1.2.2.2.1).bind fun z8=>some ((z8.1.1,()),(z8.2.1,())) else(dX ⟨#[35]⟩ z7.2.1.1 z7.2.1.2.1 z7.2.1.2.2.1 z7.2.1.2.2.2.1).bind fun z9=>if z9.1.1=true then jn 1 z9.2.1.1 z9.2.1.2.1 z9.2.1.2.2.1 z9.2.1.2.2.2.1 else(mt z9.2.1.1 z9.2.1.2.1 z9.2.1.2.2.1 z9.2.1.2.2.2.1).bind fun z10=>fL z10.1.1 1 z10.2.1.1 z10.2.1.2.1 z10.2.1.2.2.1 z10.2.1.2.2.2.1:=av
theorem Nu {x0}:tF x0=if(decide (x0≥6))=true then some ((1,()),()) else if(x0 == 5)=true then some ((2,()),()) else if(decide (x0≥3))=true then some ((4,()),()) else some ((3,()),()):=av
theorem Nv {x0 x1 x2 x3 x4}:DC x0 x1 x2 x3 x4=qO x0 0 x1 x2 x3 x4 ([7,9,11,6,8,10,1,2,3,4,5]:(List Int)):=av
theorem Qj {x0 x1}:wQ x0 x1=ix x0 x1 (af.dflt) fun y1=>se x0 x1 (gt_ gu_ (x1 - 1)) (gt_ gu_ ((ac_ y1.2.2.2.2.2.1:Int) - 1)):=av
theorem Qk {x0 x1}:wR x0 x1=sf x0 x1 0 0:=av
theorem Ju {x0}:kB x0=if(decide ((ac_ x0:Int) < 1))=true then some ((false,()),()) else if(decide ((ac_ x0:Int) > 60))=true then some ((false,()),()) else eT x0 0:=av
theorem Fk {x0}:iP x0=(tE x0).bind fun z1=>if(!z1.1.1)=true then some ((([]:(List ab)),false,()),()) else(ff 1 x0 0 false ([]:(List ab))).bind fun z2=>(jZ z2.2.1.1 z2.2.1.2.1 z2.2.1.2.2.1 z2.2.1.2.2.2.1).bind fun z3=>if z3.2.1.2.2.1=true then some ((([]:(List ab)),false,()),()) else if(decide (z3.2.1.2.1 < (ao_ x0:Int)))=true then some ((([]:(List ab)),false,()),()) else(kB z3.2.1.2.2.2.1).bind fun z4=>if(!z4.1.1)=true then some ((([]:(List ab)),false,()),()) else some ((z3.2.1.2.2.2.1,true,()),()):=av
theorem Nw {x0}:DD x0=nj x0 ⟨#[34]⟩ 0:=av
theorem Ql {x0}:GJ x0=if(x0 == 1)=true then some ((⟨#[84,82,85,69]⟩,()),()) else some ((⟨#[70,65,76,83,69]⟩,()),()):=av
theorem Jv {x0}:ju x0=(iO x0).bind fun z1=>if(!z1.1.1)=true then some ((⟨#[]⟩,()),()) else if(x0.1 == 1)=true then(dR x0.2.1).bind fun z2=>some ((z2.1.1,()),()) else if(x0.1 == 2)=true then cats ⟨#[39]⟩ x0.2.2.1 fun y1=>some ((y1,()),()) else if(x0.1 == 3)=true then(GJ x0.2.1).bind fun z3=>some ((z3.1.1,()),()) else if(x0.1 == 4)=true then(wP x0.2.1).bind fun z4=>some ((z4.1.1,()),()) else some ((⟨#[]⟩,()),()):=av
theorem Qm {x0 x1 x2}:mv x0 x1 x2=ix x0 x1 (af.dflt) fun y1=>if(y1.1 == 1)=true then if(y1.2.2.1.1 == 2)=true then(DD y1.2.2.1.2.2.1).bind fun z1=>some ((z1.1.1,()),()) else(ju y1.2.2.1).bind fun z2=>some ((z2.1.1,()),()) else if(y1.1 == 2)=true then(c8 y1.2.2.2.1).bind fun z3=>some ((z3.1.1,()),()) else if(y1.1 == 3)=true then(c8 y1.2.2.2.1).bind fun z4=>cats z4.1.1 ⟨#[58]⟩ fun y2=>(c8 y1.2.2.2.2.1).bind fun z5=>cats y2 z5.1.1 fun y3=>some ((y3,()),()) else if(y1.1 == 4)=true then ix y1.2.2.2.2.2.1 0 0 fun y4=>(mv x0 y4 5).bind fun z6=>cats ⟨#[45]⟩ z6.1.1 fun y5=>some ((y5,()),()) else if(y1.1 == 5)=true then(tF y1.2.1).bind fun z7=>ix y1.2.2.2.2.2.1 0 0 fun y6=>(mv x0 y6 z7.1.1).bind fun z8=>(lf y1.2.1).bind fun z9=>cats z8.1.1 z9.1.1 fun y7=>ix y1.2.2.2.2.2.1 1 0 fun y8=>(mv x0 y8 (gt_ gu_ (z7.1.1+1))).bind fun z10=>cats y7 z10.1.1 fun y9=>if(decide (z7.1.1 < x2))=true then cats ⟨#[40]⟩ y9 fun y10=>cats y10 ⟨#[41]⟩ fun y11=>some ((y11,()),()) else some ((y9,()),()) else(JW y1.2.1).bind fun z11=>cats z11.1.1 ⟨#[40]⟩ fun y12=>nk x0 y12 0 y1.1 y1.2.1 y1.2.2.1 y1.2.2.2.1 y1.2.2.2.2.1 y1.2.2.2.2.2.1:=av
theorem uW {x0}:lP x0=(kB x0).bind fun z1=>if(!z1.1.1)=true then some ((⟨#[]⟩,()),()) else(mv x0 (gt_ gu_ ((ac_ x0:Int) - 1)) 0).bind fun z2=>if(decide ((ao_ z2.1.1:Int) > 200))=true then some ((⟨#[]⟩,()),()) else some ((z2.1.1,()),()):=av
theorem Ls {x0}:AO x0=if(decide ((ao_ x0:Int) > 0))=true then ex x0 0 fun y1=>if(y1 == 45)=true then iJ x0 1 fun y2=>if(Z6 y2 == Z6 ⟨#[]⟩)=true then some (((0,0,⟨#[]⟩,()),false,()),()) else j8 y2 (y1 == 45) 0 0 ⟨#[]⟩ else if(Z6 x0 == Z6 ⟨#[]⟩)=true then some (((0,0,⟨#[]⟩,()),false,()),()) else j8 x0 (y1 == 45) 0 0 ⟨#[]⟩ else if(Z6 x0 == Z6 ⟨#[]⟩)=true then some (((0,0,⟨#[]⟩,()),false,()),()) else j8 x0 false 0 0 ⟨#[]⟩:=av
theorem C1 {x0}:qb x0=(tE x0).bind fun z1=>if(!z1.1.1)=true then some ((⟨#[]⟩,false,()),()) else if(Z6 x0 == Z6 ⟨#[]⟩)=true then some ((⟨#[]⟩,true,()),()) else ex x0 0 fun y1=>if(y1 == 61)=true then iJ x0 1 fun y2=>(iP y2).bind fun z2=>(lP z2.1.1).bind fun z3=>if(!z2.1.2.1)=true then some ((⟨#[]⟩,false,()),()) else if(Z6 z3.1.1 == Z6 ⟨#[]⟩)=true then some ((⟨#[]⟩,false,()),()) else if(decide ((gt_ gu_ ((ao_ z3.1.1:Int)+1)) > 200))=true then some ((⟨#[]⟩,false,()),()) else cats ⟨#[61]⟩ z3.1.1 fun y3=>some ((y3,true,()),()) else(AO x0).bind fun z4=>if z4.1.2.1=true then(ju z4.1.1).bind fun z5=>some ((z5.1.1,true,()),()) else(r8 x0).bind fun z6=>if(!z6.1.2.1)=true then(ju (2,0,x0,())).bind fun z7=>if(decide ((ao_ z7.1.1:Int) > 200))=true then some ((⟨#[]⟩,false,()),()) else some ((z7.1.1,true,()),()) else(ju z6.1.1).bind fun z8=>if(decide ((ao_ z8.1.1:Int) > 200))=true then some ((⟨#[]⟩,false,()),()) else some ((z8.1.1,true,()),()):=av
theorem Nx {x0 x1}:yr x0 x1=if(decide (x0.2.1 < x1.2.1))=true then some ((true,()),()) else if(x0.2.1 == x1.2.1)=true then some (((decide (x0.1 < x1.1)),()),()) else some ((false,()),()):=av
theorem Ny {x0}:yt x0=if(decide ((ac_ x0:Int) > 120))=true then some ((false,()),()) else nl x0 0:=av
theorem SM {x0 x1 x2}:wS x0 x1 x2=iy x0 x2 (Z6 x2 == Z6 ⟨#[]⟩) 0 x1.1 x1.2.1 ([]:(List ac)):=av
theorem SN {x0 x1 x2}:AP x0 x1 x2=(qb x2).bind fun z1=>(yt x0).bind fun z2=>if(!z2.1.1)=true then some ((([]:(List ac)),false,()),()) else(c7 x1).bind fun z3=>if(!z3.1.1)=true then some ((([]:(List ac)),false,()),()) else if(!z1.1.2.1)=true then some ((([]:(List ac)),false,()),()) else(wS x0 x1 z1.1.1).bind fun z4=>if(decide ((ac_ z4.1.1:Int) > 120))=true then some ((([]:(List ac)),false,()),()) else some ((z4.1.1,true,()),()):=av
theorem GU {x0 x1 x2}:qL x0 x1 x2=(vO (gt_ gu_ (x0+1)) x1 x2).bind fun z1=>j9 z1.1.1 z1.2.1 ([]:(List ac)):=av
theorem DQ {x0}:rF x0=(GH x0).bind fun z1=>(qL 12 z1.1.1.1 z1.1.1.2.1).bind fun z2=>some ((z2.1.1,()),()):=av
theorem Qn {x0 x1 x2}:eE x0 x1 x2=if(decide (x0≥x1))=true then some (((decide (x0≤x2)),()),()) else some ((false,()),()):=av
theorem SO {x0}:gA x0=(eE x0.1 1 52).bind fun z1=>if z1.1.1=true then(eE x0.2.1 1 99).bind fun z2=>some ((z2.1.1,()),()) else some ((false,()),()):=av
theorem rj {x0}:ph x0=some (((x0 != x0),()),()):=av
theorem yB {x0 x1}:fI x0 x1=(ph x0).bind fun z1=>(ph x1).bind fun z2=>if z1.1.1=true then if z2.1.1=true then some ((0,()),()) else some (((-1),()),()) else if z2.1.1=true then some ((1,()),()) else if(decide (x0 < x1))=true then some (((-1),()),()) else if(decide (x0 > x1))=true then some ((1,()),()) else some ((0,()),()):=av
theorem Jw {x0}:r9 x0=nK 0 x0 (ac_ x0:Int) 0:=av
theorem uX {x0 x1}:lQ x0 x1=(fI x0.2.1 x1.2.1).bind fun z1=>(fI x0.1 x1.1).bind fun z2=>(r9 ([z1.1.1,z2.1.1]:(List Int))).bind fun z3=>some ((z3.1.1,()),()):=av
theorem Qo {x0 x1}:wT x0 x1=si x0 x1 (ao_ x0:Int) 0:=av
theorem tP {x0 x1}:fg x0 x1=if(decide ((ao_ x0:Int)≥(ao_ x1:Int)))=true then CF x0 (ao_ x1:Int) fun y1=>some (((Z6 y1 == Z6 x1),()),()) else some ((false,()),()):=av
theorem tQ {x0 x1}:oy x0 x1=(fg x0 x1).bind fun z1=>if(!z1.1.1)=true then some ((x0,false,()),()) else iJ x0 (ao_ x1:Int) fun y1=>some ((y1,true,()),()):=av
theorem yC {x0 x1}:cD x0 x1=(oy x0 x1).bind fun z1=>some (z1.1,()):=av
theorem zN {x0 x1}:iR x0 x1=(oZ) [.val .str x0,.val .str x1] []:=av
theorem Cv {x0 x1 x2}:iE x0 x1 x2=(iR x0 ⟨#[32]⟩).bind fun z1=>some ((),((z1.1.1,x2,x1,()),())):=av
theorem yD {x0 x1}:eA x0 x1=(fg x0 x1).bind fun z1=>some ((z1.1.1,()),()):=av
theorem Fl {x0 x1 x2}:pi x0 x1 x2=(iE x0 x1 x2).bind fun z1=>lx (ac_ ([⟨#[60,62]⟩,⟨#[60,61]⟩,⟨#[62,61]⟩,⟨#[60]⟩,⟨#[62]⟩,⟨#[61]⟩,⟨#[38]⟩,⟨#[43]⟩,⟨#[45]⟩,⟨#[42]⟩,⟨#[47]⟩,⟨#[40]⟩,⟨#[41]⟩,⟨#[44]⟩,⟨#[58]⟩]:(List Z0)):Int) 0 z1.2.1.1 z1.2.1.2.2.1 ([⟨#[60,62]⟩,⟨#[60,61]⟩,⟨#[62,61]⟩,⟨#[60]⟩,⟨#[62]⟩,⟨#[61]⟩,⟨#[38]⟩,⟨#[43]⟩,⟨#[45]⟩,⟨#[42]⟩,⟨#[47]⟩,⟨#[40]⟩,⟨#[41]⟩,⟨#[44]⟩,⟨#[58]⟩]:(List Z0)) z1.2.1.2.1:=av
theorem Fm {x0 x1 x2 x3}:bn x0 x1 x2 x3=(pi x1 x2 x3).bind fun z1=>if(! (Z6 z1.1.1 == Z6 x0))=true then some ((false,()),(z1.2.1,())) else iJ z1.2.1.1 (ao_ x0:Int) fun y1=>some ((true,()),((y1,z1.2.1.2.1,z1.2.1.2.2.1,()),())):=av
theorem kH {x0 x1 x2 x3}:eQ x0 x1 x2 x3=if(decide (x0 > 400))=true then some (((-1),()),((x1,x3,true,()),())) else if x2=true then some (((-1),()),((x1,x3,x2,()),())) else(bn ⟨#[45]⟩ x1 x2 x3).bind fun z1=>if z1.1.1=true then(eQ (gt_ gu_ (x0+1)) z1.2.1.1 z1.2.1.2.2.1 z1.2.1.2.1).bind fun z2=>(aI (4,0,(0,0,⟨#[]⟩,()),((0,0,()),false,false,()),((0,0,()),false,false,()),([z2.1.1]:(List Int)),()) z2.2.1.1 z2.2.1.2.2.1 z2.2.1.2.1).bind fun z3=>some ((z3.1.1,()),(z3.2.1,())) else(fx x0 z1.2.1.1 z1.2.1.2.2.1 z1.2.1.2.1).bind fun z4=>some ((z4.1.1,()),(z4.2.1,())):=av
theorem GV {x0 x1 x2 x3}:aI x0 x1 x2 x3=if x2=true then some (((gt_ gu_ ((ac_ x3:Int) - 1)),()),((x1,x3,true,()),())) else if(! (decide ((ac_ x3:Int)≥60)))=true then app x3 ([x0]:(List ab)) 120 fun y1=>some (((gt_ gu_ ((ac_ y1:Int) - 1)),()),((x1,y1,(decide ((ac_ x3:Int)≥60)),()),())) else some (((gt_ gu_ ((ac_ x3:Int) - 1)),()),((x1,x3,(decide ((ac_ x3:Int)≥60)),()),())):=av
theorem GW {x0 x1}:strings_Cut x0 x1=(BU) [.val .str x0,.val .str x1] []:=av
end Go.Proofs.YtipnjpfdlolhmaaGreatDoor.Abs
