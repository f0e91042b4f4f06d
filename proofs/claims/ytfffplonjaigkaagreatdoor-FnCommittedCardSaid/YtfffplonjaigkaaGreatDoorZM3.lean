/- A row's frame that keeps the world's shape beside what is laid; the cell of a variable of the library's that is a number. -/
import Derived.Handed
import Derived.HandedShaped
import Derived.LaidLaws
import Derived.Stop.LaidErr
import Derived.Shelf.LaysM
import Derived.Test.YtfffplonjaigkaaGreatDoorZM1
import Derived.SevenTiedAt
import Derived.Test.YtfffplonjaigkaaGreatDoorZA3
import Derived.Test.YtfffplonjaigkaaGreatDoorZQAD
set_option linter.unusedVariables false
open Bool renaming and_eq_true→S8,eq_false_iff→ad_
open ByteArray renaming size_append→W5,size→U1,toList→S2
open Go.IntKind renaming i64→ea_,wrap→dz_
open Int renaming tmod→cg_,toNat→V1
open List renaming any_eq_true→bv_,getD→V5,getElem?_eq_some_iff→U0,length→T5
open Option.some renaming inj→X0
open _root_ renaming ByteArray→S0,if_pos→S6
namespace Go.Proofs.YtfffplonjaigkaaGreatDoor.Abs
open Go Go.RowKit Go.ChangeShapes
theorem H4 {W:World} (h:W.ShapedOpen Tryz.prog) : ∃ m,W.cell? ⟨0,0,none⟩=some (.int .i64 m):=Tryz.layCut.s1_3 W h
theorem oz {H:Type} {enc:TypeId×Value→H} {a:Assume} {C:Checked} {os:Os} {f:FuncId} {fn:Func} {s:ChangeSpec} {conds:List PathCond} {apart fresh handsOn again:Bool} {X:World→Array Value→Prop}
  (hX : ∀(w w':World) (args:Array Value),w.heap=w'.heap→X w args→X w' args)
  (own:ownKnob C.prog.godebug=none) (started:os.Started) (noInit:C.prog.inits.idxOf? f=none) (hfn:C.prog.funcs[f]? = some fn)
  (witness : ∃(w:World) (tape:Tape) (i:Input),w.os=os∧(w.forCall tape i).Shaped C.prog∧i.vars=[]∧Input.okWide C.prog (w.forCall tape i) .any w.heap.size f i ∧
   ((s.pre enc C.prog fn conds apart (w.forCall tape i).memory i.args∧X (w.forCall tape i).memory i.args)∧sizedMet enc C.prog fn (OpenSpec.ofChange s) apart (w.forCall tape i).memory i.args)∧a.holds C.prog (lone (Frame.enter C.prog f i.args .normal) [] (w.forCall tape i)))
  (contract : ∀(W:World) (base:Nat) (args:Array Value) (ds gs:List (DataW H)) (before:List MemPlace),
   (∀(j:Nat) t v,fn.params[j]? = some t→args[j]? = some v→Value.okWide C.prog W .any base t v) →
   DataW.Whole enc C.prog fn.params.toList s.vars apart W args.toList ds gs before →
   conds.all (PathCond.test C.prog ⟨fn.params.toList,ds,s.plain.varTypes C.prog,gs⟩)=true →
   (DataW.weightsEach C.prog (fn.params.toList++s.plain.varTypes C.prog) (ds++gs)).all (· ≤ reachBytes)=true→X W args→W.ShapedOpen C.prog →
   a.holds C.prog (lone (Frame.enter C.prog f args .normal) [] W) →
   Calls C.prog f args W fun e W' => ∃ v,e = .returned v∧s.post enc C.prog fn apart fresh handsOn again W args v W') :
  ReturnsInHanded a C os f .any (fun w args=>(s.pre enc C.prog fn conds apart w args∧X w args)∧sizedMet enc C.prog fn (OpenSpec.ofChange s) apart w args) (s.post enc C.prog fn apart fresh handsOn again):=by
 refine returnsInHanded_of_calls own started noInit witness ?_
 intro w tape i _ hsh _ hok hpre hholds
 obtain⟨_,_,_,fn',hfn',_,_,_,_,hval⟩:=hok
 have e:fn'=fn:=X0 (hfn'.symm.trans hfn)
 subst e
 obtain⟨⟨⟨ds,gs,before,hw,hc⟩,hx⟩,hz⟩:=hpre
 have hw':=DataW.Whole.of_heap (w':=w.forCall tape i) (by rfl) hw
 refine(contract (w.forCall tape i) w.heap.size i.args ds gs before hval hw' hc (hz.weights hw) (hX _ _ _ (by rfl) hx) hsh hholds).mono fun e W' ⟨v,he,hp⟩ => ?_
 subst he
 exact ChangeSpec.post_blind hp
end Go.Proofs.YtfffplonjaigkaaGreatDoor.Abs
namespace Go.Proofs.YtfffplonjaigkaaGreatDoor.Abs
open Go
theorem Mw {P:Program} (h:P.funcs.any Func.goes=false) (c:OpenClaim):false=c.goesBy P:=by
 have h1 : ∀ g:FuncId,(P.funcs[g]?).any Func.goes=false:=by
  intro g
  cases hg:P.funcs[g]? with
  | none=>rfl
  | some fn =>
   rw[Option.any_some,ad_]
   intro hh
   have h2:P.funcs.any Func.goes=true:=by
    rw[Array.any_eq_true]
    obtain⟨hl,e⟩:=Array.getElem?_eq_some_iff.1 hg
    exact⟨g,hl,by rw[e]; exact hh⟩
   rw[h] at h2
   cases h2
 have h2 : ∀ f:FuncId,P.goes f=false:=by
  intro f
  unfold Program.goes
  rw[h,Bool.and_false,Bool.or_false,ad_]
  intro hh
  obtain⟨g,_,hg⟩:=bv_.1 hh
  rw[h1 g] at hg
  cases hg
 have h3 : ∀ s:String,P.goesFrom s=false:=by
  intro s
  unfold Program.goesFrom
  cases P.funcNamed s with
  | none=>rfl
  | some f=>exact h2 f
 have h4:P.inits.toList.any P.goes=false:=by
  rw[ad_]
  intro hh
  obtain⟨g,_,hg⟩:=bv_.1 hh
  rw[h2 g] at hg
  cases hg
 unfold OpenClaim.goesBy Program.goesAt
 rw[h3,Bool.false_or,h4]
 cases c.start <;> rfl
end Go.Proofs.YtfffplonjaigkaaGreatDoor.Abs
set_option linter.unusedSimpArgs false
set_option linter.unusedSectionVars false
namespace Go.Proofs.YtfffplonjaigkaaGreatDoor.Abs
open Go
section
variable {α β:Type}
theorem bk {xs pre ys:List α} {y d:α} {f:α→Option β} (h:xs=pre++y :: ys):ix xs (pre.length:Int) d f=f y:=by
 subst h
 have h1:((pre.length:Nat):Int) < ((pre++y :: ys).length:Int):=FW
 unfold ix
 rw[S6 (nn _),S6 h1,jO]
theorem df {xs:List α} {i:Int} {y d:α} {f:α→Option β} (h0:0≤i) (h:xs[i.toNat]? = some y):ix xs i d f=f y:=by
 have h2:=(U0.1 h)
 obtain⟨h3,h4⟩:=h2
 have h1:i < (xs.length:Int):=by omega
 unfold ix
 rw[S6 h0,S6 h1]
 congr 1
 simp[List.getD_eq_getElem?_getD,h]
theorem jz {xs:List α} {i:Int} {k:Option β} (h0:0≤i) (h1:i < (xs.length:Int)):inb xs i k=k:=by
 unfold inb
 rw[S6 h0,S6 h1]
theorem fN {xs pre ys:List α} {y:α} {k:Option β} (h:xs=pre++y :: ys):inb xs (pre.length:Int) k=k:=by
 subst h
 exact jz (nn _) FW
theorem QH {s:S0} {i:Int} {f:Int→Option β} (h0:0≤i) (h1:i < (s.size:Int)):dn s i f=f (bt s i):=by
 unfold dn
 rw[S6 h0,S6 h1]
theorem dg {a b:S0} {f:S0→Option β} (h:a.size+b.size≤9223372036854775807):cats a b f=f (a++b):=S6 h
theorem bA {a b:List α} {n:Nat} {f:List α→Option β} (h:(a.length+b.length)*n≤140737488355328):app a b n f=f (a++b):=S6 h
theorem QI {s:S0} {h:Int} {f:S0→Option β} (h0:0≤h) (h1:h≤(s.size:Int)):yQ s h f=f (s.extract 0 h.toNat):=by
 unfold yQ
 rw[S6 h0,S6 h1]
theorem QJ {s:S0} {l:Int} {f:S0→Option β} (h0:0≤l) (h1:l≤(s.size:Int)):gJ s l f=f (s.extract l.toNat s.size):=by
 unfold gJ
 rw[S6 h0,S6 h1]
theorem QK {s:S0} {l h:Int} {f:S0→Option β} (h0:0≤l) (h1:l≤h) (h2:h≤(s.size:Int)):rk s l h f=f (s.extract l.toNat h.toNat):=by
 unfold rk
 rw[S6 (by omega),S6 h2,S6 h0,S6 h1]
theorem RH {b:Int} {k:Option β} (h:b≠0):nz b k=k:=if_neg h
theorem bq {xs pre ys:List α} {y:α} (h:xs=pre++y :: ys):((pre.length:Nat):Int) < (xs.length:Int):=by rw[h]; exact FW
theorem bQ {xs pre:List α} (h:xs=pre++[]) : ¬((pre.length:Nat):Int) < (xs.length:Int):=by rw[h,List.append_nil]; exact Int.lt_irrefl _
theorem aL {xs pre ys:List α} {y:α} (h:xs=pre++y :: ys) (hl:xs.length≤9223372036854775807):IntKind.i64.wrap ((pre.length:Int)+1)=((pre++[y]).length:Int):=by
 have:=bq h
 rw[wr (by omega) (by omega),Oe]
theorem aM {xs pre ys:List α} {y:α} (h:xs=pre++y :: ys):xs=(pre++[y])++ys:=by rw[h]; simp
end
def lz (s:S0):List Int:=s.data.toList.map fun b=>(b.toNat:Int)
theorem tv (s:S0):(lz s).length=s.size:=by
 unfold lz
 rw[List.length_map,Array.length_toList]
 rfl
theorem QL {s:S0} {pre ys:List Int} {y:Int} (h:lz s=pre++y :: ys):bt s (pre.length:Int)=y:=by
 have hl:pre.length < s.size:=by rw[←tv,h]; simp
 unfold bt
 simp only[Int.toNat_natCast,hl,dite_true]
 have h1:(lz s)[pre.length]? = some y:=by rw[h]; simp
 unfold lz at h1
 rw[List.getElem?_map,Option.map_eq_some_iff] at h1
 obtain⟨b,hb,rfl⟩:=h1
 rw[U0] at hb
 obtain⟨_,hb⟩:=hb
 rw[←hb]
 simp[ByteArray.getElem_eq_getElem_data]
@[simp] theorem RJ (a b:S0):lz (a++b)=lz a++lz b:=by simp[lz]
@[simp] theorem size_append (a b:S0):(a++b).size=a.size+b.size:=W5
theorem xn {β:Type} {s:S0} {pre ys:List Int} {y:Int} {f:Int→Option β} (h:lz s=pre++y :: ys):dn s (pre.length:Int) f=f y:=by
 have hl:((pre.length:Nat):Int) < (s.size:Int):=by rw[←tv]; exact bq h
 rw[QH (nn _) hl,QL h]
theorem Mx {s:S0} {pre ys:List Int} {y:Int} (h:lz s=pre++y :: ys):((pre.length:Nat):Int) < (s.size:Int):=by rw[←tv]; exact bq h
theorem Jd {s:S0} {pre:List Int} (h:lz s=pre++[]) : ¬((pre.length:Nat):Int) < (s.size:Int):=by rw[←tv]; exact bQ h
theorem Gg {s:S0} {pre ys:List Int} {y:Int} (h:lz s=pre++y :: ys) (hl:s.size≤9223372036854775807):IntKind.i64.wrap ((pre.length:Int)+1)=((pre++[y]).length:Int):=aL h (by rw[tv]; exact hl)
@[simp] theorem Sj {x y:S0}:(x == y)=true↔x=y:=by
 cases x; cases y
 constructor
 ·intro h
  congr 1
  exact eq_of_beq h
 ·intro h
  cases h
  exact beq_self_eq_true (α:=Array UInt8) _
theorem lA : ∀ {t:Ty} {x y:t.den},cx t=true→(bV t x y=true↔x=y)
 | .int _,x,y,_=>by simp[bV]
 | .bool,x,y,_=>by simp[bV]
 | .str,x,y,_=>by
  exact Sj
 | .unit,_,_,_=>by simp[bV]
 | .pair a b,x,y,h=>by
  simp only[cx,S8] at h
  simp only[bV,S8,lA h.1,lA h.2]
  exact⟨fun⟨h1,h2⟩=>Prod.ext h1 h2,fun h=>by rw[h]; exact⟨rfl,rfl⟩⟩
 | .agg t,x,y,h=>by
  simp only[cx] at h
  simp only[bV,lA h]
 | .slice _ _,_,_,h=>by cases h
theorem aC {α:Type} {p:Prop} [Decidable p] {a b:α} (h:p):(if decide p=true then a else b)=a:=S6 (decide_eq_true h)
theorem ax {α:Type} {p:Prop} [Decidable p] {a b:α} (h : ¬p):(if decide p=true then a else b)=b:=if_neg (by simpa using h)
section
variable {α:Type}
end
end Go.Proofs.YtfffplonjaigkaaGreatDoor.Abs
set_option maxRecDepth 100000
namespace Go.Proofs.YtfffplonjaigkaaGreatDoor.Abs
open Go Go.Proofs.YtfffplonjaigkaaGreatDoor
theorem PG {x0}:Oh x0=some (((decide ((T5 x0:Int) > 1048576)),()),()):=az
theorem Kw {x0}:Jb x0=some (((x0,0,()),()),()):=az
theorem Kx:Jc=some (((2,([(1,([]:(List Int)),([]:(List ac)),())]:(List ag)),([(⟨#[109,97,105,110]⟩,1,())]:(List ah)),()),()),()):=az
theorem EJ {x0 x1}:oV x0 x1=if(decide (x1≥(T5 x0:Int)))=true then some ((0,()),((x0,x1,()),())) else ix x0 (dz_ ea_ ((dz_ ea_ (x1+1)) - 1)) 0 fun y1=>some (((dz_ ea_ y1),()),((x0,(dz_ ea_ (x1+1)),()),())):=az
theorem tw {x0}:gv x0=if(decide (x0.2.1≥(T5 x0.1:Int)))=true then some ((0,()),(x0,())) else ix x0.1 (dz_ ea_ ((dz_ ea_ (x0.2.1+1)) - 1)) 0 fun y1=>some (((dz_ ea_ y1),()),((x0.1,(dz_ ea_ (x0.2.1+1)),()),())):=az
theorem CJ {x0 x1 x2}:r7 x0 x1 x2=if(decide (x0≤1))=true then some ((0,()),((x1,x2,()),())) else if(decide (x0≤256))=true then(oV x1 x2).bind fun z1=>nz x0 (some (((cg_ z1.1.1 x0),()),(z1.2.1,()))) else(oV x1 x2).bind fun z2=>(gv z2.2.1).bind fun z3=>nz x0 (some (((cg_ (dz_ ea_ ((dz_ ea_ (z2.1.1*256))+z3.1.1)) x0),()),(z3.2.1,()))):=az
theorem Br {x0 x1}:aq x0 x1=if(decide (x0≤1))=true then some ((0,()),(x1,())) else if(decide (x0≤256))=true then(gv x1).bind fun z1=>nz x0 (some (((cg_ z1.1.1 x0),()),(z1.2.1,()))) else(gv x1).bind fun z2=>(gv z2.2.1).bind fun z3=>nz x0 (some (((cg_ (dz_ ea_ ((dz_ ea_ (z2.1.1*256))+z3.1.1)) x0),()),(z3.2.1,()))):=az
theorem Oq {x0 x1 x2}:kI x0 x1 x2=if(decide (x0≥x1))=true then some (((decide (x0≤x2)),()),()) else some ((false,()),()):=az
theorem H5 {x0}:qc x0=ny x0 0:=az
theorem Bs {x0 x1 x2 x3}:gM x0 x1 x2 x3=ja x0 x1 x2 x3:=az
theorem H6 {x0 x1 x2 x3 x4}:cY x0 x1 x2 x3 x4=(gM x1 x2 x3 x4).bind fun z1=>if z1.2.1.2.2.1=true then some ((false,()),(z1.2.1,())) else if(decide ((dz_ ea_ (z1.2.1.2.1+(U1 x0:Int))) > (U1 z1.2.1.1:Int)))=true then some ((false,()),(z1.2.1,())) else rk z1.2.1.1 z1.2.1.2.1 (dz_ ea_ (z1.2.1.2.1+(U1 x0:Int))) fun y1=>if(! (S2 y1 == S2 x0))=true then some ((false,()),(z1.2.1,())) else some ((true,()),((z1.2.1.1,(dz_ ea_ (z1.2.1.2.1+(U1 x0:Int))),z1.2.1.2.2.1,z1.2.1.2.2.2.1,()),())):=az
theorem xo {x0 x1 x2 x3 x4}:dI x0 x1 x2 x3 x4=if x3=true then some ((0,()),((x1,x2,x3,x4,()),())) else if(x0 == 5)=true then(rr x1 x2 x3 x4).bind fun z1=>some ((z1.1.1,()),(z1.2.1,())) else(dI (dz_ ea_ (x0+1)) x1 x2 x3 x4).bind fun z2=>cL x0 z2.1.1 z2.2.1.1 z2.2.1.2.1 z2.2.1.2.2.1 z2.2.1.2.2.2.1:=az
theorem H7 {x0}:fG x0=if(x0.1 == 0)=true then if(x0.2.1 == 0)=true then some (((S2 x0.2.2.1 == S2 ⟨#[]⟩),()),()) else some ((false,()),()) else if(x0.1 == 1)=true then(kI x0.2.1 (-1000000000000000) 1000000000000000).bind fun z1=>if z1.1.1=true then some (((S2 x0.2.2.1 == S2 ⟨#[]⟩),()),()) else some ((false,()),()) else if(x0.1 == 2)=true then if(x0.2.1 == 0)=true then(qc x0.2.2.1).bind fun z2=>some ((z2.1.1,()),()) else some ((false,()),()) else if(x0.1 == 3)=true then(kI x0.2.1 0 1).bind fun z3=>if z3.1.1=true then some (((S2 x0.2.2.1 == S2 ⟨#[]⟩),()),()) else some ((false,()),()) else if(x0.1 == 4)=true then(kI x0.2.1 1 5).bind fun z4=>if z4.1.1=true then some (((S2 x0.2.2.1 == S2 ⟨#[]⟩),()),()) else some ((false,()),()) else some ((false,()),()):=az
theorem My {x0}:dx x0=(kI x0.1 1 52).bind fun z1=>if z1.1.1=true then(kI x0.2.1 1 99).bind fun z2=>some ((z2.1.1,()),()) else some ((false,()),()):=az
theorem Ky {x0}:Cx x0=(dx x0.1).bind fun z1=>if z1.1.1=true then(dx x0.2.1).bind fun z2=>if z2.1.1=true then if(decide (x0.1.1≤x0.2.1.1))=true then some (((decide (x0.1.2.1≤x0.2.1.2.1)),()),()) else some ((false,()),()) else some ((false,()),()) else some ((false,()),()):=az
theorem Kz {x0 x1}:Cy x0 x1=if(x0 == 1)=true then if(x0 == 1)=true then if(decide (x1≥1))=true then some (((decide (x1≤10)),()),()) else some ((false,()),()) else if(x0 == 5)=true then if(x1 == 2)=true then some ((true,()),()) else some (((x1 == 3),()),()) else if(x0 == 8)=true then if(x0 == 8)=true then some (((x1 == 1),()),()) else some ((false,()),()) else if(x0 == 9)=true then if(x0 == 9)=true then some (((x1 == 1),()),()) else some ((false,()),()) else if(x0 == 10)=true then some (((x1 == 1),()),()) else some ((false,()),()) else if(x0 == 2)=true then if(x0 == 2)=true then if(decide (x1≥1))=true then some (((decide (x1≤10)),()),()) else some ((false,()),()) else if(x0 == 5)=true then if(x1 == 2)=true then some ((true,()),()) else some (((x1 == 3),()),()) else if(x0 == 8)=true then if(x0 == 8)=true then some (((x1 == 1),()),()) else some ((false,()),()) else if(x0 == 9)=true then if(x0 == 9)=true then some (((x1 == 1),()),()) else some ((false,()),()) else if(x0 == 10)=true then some (((x1 == 1),()),()) else some ((false,()),()) else if(x0 == 3)=true then if(x0 == 3)=true then if(decide (x1≥1))=true then some (((decide (x1≤10)),()),()) else some ((false,()),()) else if(x0 == 5)=true then if(x1 == 2)=true then some ((true,()),()) else some (((x1 == 3),()),()) else if(x0 == 8)=true then if(x0 == 8)=true then some (((x1 == 1),()),()) else some ((false,()),()) else if(x0 == 9)=true then if(x0 == 9)=true then some (((x1 == 1),()),()) else some ((false,()),()) else if(x0 == 10)=true then some (((x1 == 1),()),()) else some ((false,()),()) else if(x0 == 4)=true then if(x0 == 4)=true then if(decide (x1≥1))=true then some (((decide (x1≤10)),()),()) else some ((false,()),()) else if(x0 == 5)=true then if(x1 == 2)=true then some ((true,()),()) else some (((x1 == 3),()),()) else if(x0 == 8)=true then if(x0 == 8)=true then some (((x1 == 1),()),()) else some ((false,()),()) else if(x0 == 9)=true then if(x0 == 9)=true then some (((x1 == 1),()),()) else some ((false,()),()) else if(x0 == 10)=true then some (((x1 == 1),()),()) else some ((false,()),()) else if(x0 == 6)=true then if(x0 == 6)=true then if(decide (x1≥1))=true then some (((decide (x1≤10)),()),()) else some ((false,()),()) else if(x0 == 5)=true then if(x1 == 2)=true then some ((true,()),()) else some (((x1 == 3),()),()) else if(x0 == 8)=true then if(x0 == 8)=true then some (((x1 == 1),()),()) else some ((false,()),()) else if(x0 == 9)=true then if(x0 == 9)=true then some (((x1 == 1),()),()) else some ((false,()),()) else if(x0 == 10)=true then some (((x1 == 1),()),()) else some ((false,()),()) else if(x0 == 7)=true then if(decide (x1≥1))=true then some (((decide (x1≤10)),()),()) else some ((false,()),()) else if(x0 == 5)=true then if(x1 == 2)=true then some ((true,()),()) else some (((x1 == 3),()),()) else if(x0 == 8)=true then if(x0 == 8)=true then some (((x1 == 1),()),()) else some ((false,()),()) else if(x0 == 9)=true then if(x0 == 9)=true then some (((x1 == 1),()),()) else some ((false,()),()) else if(x0 == 10)=true then some (((x1 == 1),()),()) else some ((false,()),()):=az
theorem Gh {x0}:rq x0=if(x0.1 == 1)=true then if(x0.2.1 == 0)=true then if(bV bB x0.2.2.2.1 ((0,0,()),false,false,()))=true then if(bV bB x0.2.2.2.2.1 ((0,0,()),false,false,()))=true then if((T5 x0.2.2.2.2.2.1:Int) == 0)=true then(fG x0.2.2.1).bind fun z1=>if z1.1.1=true then if(x0.2.2.1.1 != 0)=true then if(x0.2.2.1.1 != 1)=true then some ((true,()),()) else some (((decide (x0.2.2.1.2.1≥0)),()),()) else some ((false,()),()) else some ((false,()),()) else some ((false,()),()) else some ((false,()),()) else some ((false,()),()) else some ((false,()),()) else if(x0.1 == 2)=true then if(x0.2.1 == 0)=true then if(bV bw x0.2.2.1 (0,0,⟨#[]⟩,()))=true then if(bV bB x0.2.2.2.2.1 ((0,0,()),false,false,()))=true then if((T5 x0.2.2.2.2.2.1:Int) == 0)=true then(dx x0.2.2.2.1.1).bind fun z2=>some ((z2.1.1,()),()) else some ((false,()),()) else some ((false,()),()) else some ((false,()),()) else some ((false,()),()) else if(x0.1 == 3)=true then if(x0.2.1 == 0)=true then if(bV bw x0.2.2.1 (0,0,⟨#[]⟩,()))=true then if((T5 x0.2.2.2.2.2.1:Int) == 0)=true then(Cx (x0.2.2.2.1.1,x0.2.2.2.2.1.1,())).bind fun z3=>some ((z3.1.1,()),()) else some ((false,()),()) else some ((false,()),()) else some ((false,()),()) else if(x0.1 == 4)=true then if(x0.2.1 == 0)=true then if(bV bw x0.2.2.1 (0,0,⟨#[]⟩,()))=true then if(bV bB x0.2.2.2.1 ((0,0,()),false,false,()))=true then if(bV bB x0.2.2.2.2.1 ((0,0,()),false,false,()))=true then some ((((T5 x0.2.2.2.2.2.1:Int) == 1),()),()) else some ((false,()),()) else some ((false,()),()) else some ((false,()),()) else some ((false,()),()) else if(x0.1 == 5)=true then(kI x0.2.1 1 11).bind fun z4=>if z4.1.1=true then if(bV bw x0.2.2.1 (0,0,⟨#[]⟩,()))=true then if(bV bB x0.2.2.2.1 ((0,0,()),false,false,()))=true then if(bV bB x0.2.2.2.2.1 ((0,0,()),false,false,()))=true then some ((((T5 x0.2.2.2.2.2.1:Int) == 2),()),()) else some ((false,()),()) else some ((false,()),()) else some ((false,()),()) else some ((false,()),()) else if(x0.1 == 6)=true then(Cy x0.2.1 (T5 x0.2.2.2.2.2.1:Int)).bind fun z5=>if z5.1.1=true then if(bV bw x0.2.2.1 (0,0,⟨#[]⟩,()))=true then if(bV bB x0.2.2.2.1 ((0,0,()),false,false,()))=true then some (((bV bB x0.2.2.2.2.1 ((0,0,()),false,false,())),()),()) else some ((false,()),()) else some ((false,()),()) else some ((false,()),()) else some ((false,()),()):=az
theorem Gi {x0 x1 x2 x3 x4}:bW x0 x1 x2 x3 x4=app x4 ([x0]:(List ab)) 120 fun y1=>if(decide ((T5 y1:Int) > 60))=true then some (((dz_ ea_ ((T5 y1:Int) - 1)),()),((x1,x2,true,y1,()),())) else(rq x0).bind fun z1=>if(!z1.1.1)=true then some (((dz_ ea_ ((T5 y1:Int) - 1)),()),((x1,x2,true,y1,()),())) else some (((dz_ ea_ ((T5 y1:Int) - 1)),()),((x1,x2,x3,y1,()),())):=az
theorem EK {x0 x1 x2 x3}:uK x0 x1 x2 x3=iH ⟨#[]⟩ x0 x1 x2 x3:=az
theorem KA {x0}:tg x0=inb ([⟨#[]⟩,⟨#[35,68,73,86,33]⟩,⟨#[35,84,89,80,69,33]⟩,⟨#[35,82,69,70,33]⟩,⟨#[35,79,86,69,82,33]⟩,⟨#[35,67,89,67,76,69,33]⟩]:(List S0)) x0 (some (((V5 ([⟨#[]⟩,⟨#[35,68,73,86,33]⟩,⟨#[35,84,89,80,69,33]⟩,⟨#[35,82,69,70,33]⟩,⟨#[35,79,86,69,82,33]⟩,⟨#[35,67,89,67,76,69,33]⟩]:(List S0)) (V1 x0) ⟨#[]⟩),()),())):=az
theorem H8 {x0}:zK x0=some (((4,x0,⟨#[]⟩,()),()),()):=az
theorem EL {x0 x1 x2 x3}:jU x0 x1 x2 x3=db x1 x0 x1 x2 x3:=az
theorem Ot {x0}:Fg x0=inb ([⟨#[]⟩,⟨#[83,85,77]⟩,⟨#[77,73,78]⟩,⟨#[77,65,88]⟩,⟨#[67,79,85,78,84]⟩,⟨#[73,70]⟩,⟨#[65,78,68]⟩,⟨#[79,82]⟩,⟨#[78,79,84]⟩,⟨#[65,66,83]⟩,⟨#[76,69,78]⟩]:(List S0)) x0 (some (((V5 ([⟨#[]⟩,⟨#[83,85,77]⟩,⟨#[77,73,78]⟩,⟨#[77,65,88]⟩,⟨#[67,79,85,78,84]⟩,⟨#[73,70]⟩,⟨#[65,78,68]⟩,⟨#[79,82]⟩,⟨#[78,79,84]⟩,⟨#[65,66,83]⟩,⟨#[76,69,78]⟩]:(List S0)) (V1 x0) ⟨#[]⟩),()),())):=az
theorem H9 {x0}:qd x0=(kI x0 1 52).bind fun z1=>if(!z1.1.1)=true then some ((⟨#[]⟩,()),()) else sd x0 ⟨#[]⟩:=az
theorem Ia {x0}:mV x0=se x0 1:=az
theorem Mz {x0 x1}:cz x0 x1=if(decide ((U1 x0:Int) < 1))=true then some ((0,false,()),()) else if(decide ((U1 x0:Int) > x1))=true then some ((0,false,()),()) else dn x0 0 fun y1=>if(y1 == 48)=true then if(decide ((U1 x0:Int) > 1))=true then some ((0,false,()),()) else ly x0 0 0 else ly x0 0 0:=az
theorem EM {x0}:jV x0=if(decide ((U1 x0:Int) > 0))=true then dn x0 0 fun y1=>if(y1 == 36)=true then gJ x0 1 fun y2=>fZ y2 0 0 0 false false 0 0 true false else fZ x0 0 0 0 false false 0 0 false false else fZ x0 0 0 0 false false 0 0 false false:=az
theorem Gj {x0 x1 x2 x3}:nZ x0 x1 x2 x3=(gM x0 x1 x2 x3).bind fun z1=>(jU z1.2.1.1 z1.2.1.2.1 z1.2.1.2.2.1 z1.2.1.2.2.2.1).bind fun z2=>(jV z2.1.1).bind fun z3=>if z3.1.2.1=true then(cY ⟨#[58]⟩ z2.2.1.1 z2.2.1.2.1 z2.2.1.2.2.1 z2.2.1.2.2.2.1).bind fun z4=>if z4.1.1=true then(gM z4.2.1.1 z4.2.1.2.1 z4.2.1.2.2.1 z4.2.1.2.2.2.1).bind fun z5=>(jU z5.2.1.1 z5.2.1.2.1 z5.2.1.2.2.1 z5.2.1.2.2.2.1).bind fun z6=>(jV z6.1.1).bind fun z7=>if(!z7.1.2.1)=true then some ((0,()),((z6.2.1.1,z6.2.1.2.1,true,z6.2.1.2.2.2.1,()),())) else(bW (3,0,(0,0,⟨#[]⟩,()),z3.1.1,z7.1.1,([]:(List Int)),()) z6.2.1.1 z6.2.1.2.1 z6.2.1.2.2.1 z6.2.1.2.2.2.1).bind fun z8=>some ((z8.1.1,()),(z8.2.1,())) else(dI 1 z4.2.1.1 z1.2.1.2.1 z4.2.1.2.2.1 z4.2.1.2.2.2.1).bind fun z9=>some ((z9.1.1,()),(z9.2.1,())) else(dI 1 z2.2.1.1 z1.2.1.2.1 z2.2.1.2.2.1 z2.2.1.2.2.2.1).bind fun z10=>some ((z10.1.1,()),(z10.2.1,())):=az
theorem EN {x0 x1 x2 x3 x4}:uL x0 x1 x2 x3 x4=ox x0 x1 x2 x3 x4 ([]:(List Int)):=az
theorem EO {x0}:oW x0=if(S2 x0 == S2 ⟨#[]⟩)=true then some (((0,0,⟨#[]⟩,()),true,()),()) else dn x0 0 fun y1=>if(y1 == 39)=true then gJ x0 1 fun y2=>aJ 0 0 ⟨#[]⟩ 2 0 y2 else if(S2 x0 == S2 ⟨#[84,82,85,69]⟩)=true then if(S2 x0 == S2 ⟨#[84,82,85,69]⟩)=true then if(S2 x0 == S2 ⟨#[84,82,85,69]⟩)=true then aJ 0 0 ⟨#[]⟩ 3 1 ⟨#[]⟩ else aJ 0 0 ⟨#[]⟩ 3 0 ⟨#[]⟩ else dn x0 0 fun y3=>if(y3 == 35)=true then dL x0 1 0 0 ⟨#[]⟩ 4 0 ⟨#[]⟩ else dn x0 0 fun y4=>if(y4 == 45)=true then gJ x0 1 fun y5=>(cz y5 16).bind fun z1=>if(!z1.1.2.1)=true then some (((0,0,⟨#[]⟩,()),false,()),()) else if(y4 == 45)=true then if(z1.1.1 == 0)=true then some (((0,0,⟨#[]⟩,()),false,()),()) else if(y4 == 45)=true then aJ 0 0 ⟨#[]⟩ 1 (dz_ ea_ (0 - z1.1.1)) ⟨#[]⟩ else aJ 0 0 ⟨#[]⟩ 1 z1.1.1 ⟨#[]⟩ else if(y4 == 45)=true then aJ 0 0 ⟨#[]⟩ 1 (dz_ ea_ (0 - z1.1.1)) ⟨#[]⟩ else aJ 0 0 ⟨#[]⟩ 1 z1.1.1 ⟨#[]⟩ else(cz x0 16).bind fun z2=>if(!z2.1.2.1)=true then some (((0,0,⟨#[]⟩,()),false,()),()) else if(y4 == 45)=true then if(z2.1.1 == 0)=true then some (((0,0,⟨#[]⟩,()),false,()),()) else if(y4 == 45)=true then aJ 0 0 ⟨#[]⟩ 1 (dz_ ea_ (0 - z2.1.1)) ⟨#[]⟩ else aJ 0 0 ⟨#[]⟩ 1 z2.1.1 ⟨#[]⟩ else if(y4 == 45)=true then aJ 0 0 ⟨#[]⟩ 1 (dz_ ea_ (0 - z2.1.1)) ⟨#[]⟩ else aJ 0 0 ⟨#[]⟩ 1 z2.1.1 ⟨#[]⟩ else if(S2 x0 == S2 ⟨#[70,65,76,83,69]⟩)=true then if(S2 x0 == S2 ⟨#[84,82,85,69]⟩)=true then aJ 0 0 ⟨#[]⟩ 3 1 ⟨#[]⟩ else aJ 0 0 ⟨#[]⟩ 3 0 ⟨#[]⟩ else dn x0 0 fun y6=>if(y6 == 35)=true then dL x0 1 0 0 ⟨#[]⟩ 4 0 ⟨#[]⟩ else dn x0 0 fun y7=>if(y7 == 45)=true then gJ x0 1 fun y8=>(cz y8 16).bind fun z3=>if(!z3.1.2.1)=true then some (((0,0,⟨#[]⟩,()),false,()),()) else if(y7 == 45)=true then if(z3.1.1 == 0)=true then some (((0,0,⟨#[]⟩,()),false,()),()) else if(y7 == 45)=true then aJ 0 0 ⟨#[]⟩ 1 (dz_ ea_ (0 - z3.1.1)) ⟨#[]⟩ else aJ 0 0 ⟨#[]⟩ 1 z3.1.1 ⟨#[]⟩ else if(y7 == 45)=true then aJ 0 0 ⟨#[]⟩ 1 (dz_ ea_ (0 - z3.1.1)) ⟨#[]⟩ else aJ 0 0 ⟨#[]⟩ 1 z3.1.1 ⟨#[]⟩ else(cz x0 16).bind fun z4=>if(!z4.1.2.1)=true then some (((0,0,⟨#[]⟩,()),false,()),()) else if(y7 == 45)=true then if(z4.1.1 == 0)=true then some (((0,0,⟨#[]⟩,()),false,()),()) else if(y7 == 45)=true then aJ 0 0 ⟨#[]⟩ 1 (dz_ ea_ (0 - z4.1.1)) ⟨#[]⟩ else aJ 0 0 ⟨#[]⟩ 1 z4.1.1 ⟨#[]⟩ else if(y7 == 45)=true then aJ 0 0 ⟨#[]⟩ 1 (dz_ ea_ (0 - z4.1.1)) ⟨#[]⟩ else aJ 0 0 ⟨#[]⟩ 1 z4.1.1 ⟨#[]⟩:=az
theorem Gk {x0 x1 x2 x3}:rr x0 x1 x2 x3=(cY ⟨#[45]⟩ x0 x1 x2 x3).bind fun z1=>if z1.1.1=true then(dI 5 z1.2.1.1 z1.2.1.2.1 z1.2.1.2.2.1 z1.2.1.2.2.2.1).bind fun z2=>(bW (4,0,(0,0,⟨#[]⟩,()),((0,0,()),false,false,()),((0,0,()),false,false,()),([z2.1.1]:(List Int)),()) z2.2.1.1 z2.2.1.2.1 z2.2.1.2.2.1 z2.2.1.2.2.2.1).bind fun z3=>some ((z3.1.1,()),(z3.2.1,())) else(cY ⟨#[40]⟩ z1.2.1.1 z1.2.1.2.1 z1.2.1.2.2.1 z1.2.1.2.2.2.1).bind fun z4=>if z4.1.1=true then(dI 1 z4.2.1.1 z4.2.1.2.1 z4.2.1.2.2.1 z4.2.1.2.2.2.1).bind fun z5=>(cY ⟨#[41]⟩ z5.2.1.1 z5.2.1.2.1 z5.2.1.2.2.1 z5.2.1.2.2.2.1).bind fun z6=>if(!z6.1.1)=true then some ((z5.1.1,()),((z6.2.1.1,z6.2.1.2.1,true,z6.2.1.2.2.2.1,()),())) else some ((z5.1.1,()),(z6.2.1,())) else(cY ⟨#[34]⟩ z4.2.1.1 z4.2.1.2.1 z4.2.1.2.2.1 z4.2.1.2.2.2.1).bind fun z7=>if z7.1.1=true then(uK z7.2.1.1 z7.2.1.2.1 z7.2.1.2.2.1 z7.2.1.2.2.2.1).bind fun z8=>some ((z8.1.1,()),(z8.2.1,())) else(cY ⟨#[35]⟩ z7.2.1.1 z7.2.1.2.1 z7.2.1.2.2.1 z7.2.1.2.2.2.1).bind fun z9=>if z9.1.1=true then f0 1 z9.2.1.1 z9.2.1.2.1 z9.2.1.2.2.1 z9.2.1.2.2.2.1 else(jU z9.2.1.1 z9.2.1.2.1 z9.2.1.2.2.1 z9.2.1.2.2.2.1).bind fun z10=>dV z10.1.1 1 z10.2.1.1 z10.2.1.2.1 z10.2.1.2.2.1 z10.2.1.2.2.2.1:=az
theorem Ib {x0}:qe x0=if(decide (x0≥6))=true then some ((1,()),()) else if(x0 == 5)=true then some ((2,()),()) else if(decide (x0≥3))=true then some ((4,()),()) else some ((3,()),()):=az
theorem KB {x0}:iV x0=inb ([⟨#[]⟩,⟨#[43]⟩,⟨#[45]⟩,⟨#[42]⟩,⟨#[47]⟩,⟨#[38]⟩,⟨#[61]⟩,⟨#[60,62]⟩,⟨#[60]⟩,⟨#[60,61]⟩,⟨#[62]⟩,⟨#[62,61]⟩]:(List S0)) x0 (some (((V5 ([⟨#[]⟩,⟨#[43]⟩,⟨#[45]⟩,⟨#[42]⟩,⟨#[47]⟩,⟨#[38]⟩,⟨#[61]⟩,⟨#[60,62]⟩,⟨#[60]⟩,⟨#[60,61]⟩,⟨#[62]⟩,⟨#[62,61]⟩]:(List S0)) (V1 x0) ⟨#[]⟩),()),())):=az
theorem Ic {x0 x1 x2 x3 x4}:zL x0 x1 x2 x3 x4=nD x0 0 x1 x2 x3 x4 ([7,9,11,6,8,10,1,2,3,4,5]:(List Int)):=az
theorem KC {x0 x1}:th x0 x1=ix x0 x1 (al.dflt) fun y1=>o5 x0 x1 (dz_ ea_ (x1 - 1)) (dz_ ea_ ((T5 y1.2.2.2.2.2.1:Int) - 1)):=az
theorem KD {x0 x1}:tj x0 x1=o6 x0 x1 0 0:=az
theorem EP {x0}:oX x0=if(decide ((T5 x0:Int) < 1))=true then some ((false,()),()) else if(decide ((T5 x0:Int) > 60))=true then some ((false,()),()) else dD x0 0:=az
theorem Bt {x0}:qf x0=(qc x0).bind fun z1=>if(!z1.1.1)=true then some ((([]:(List ab)),false,()),()) else(dI 1 x0 0 false ([]:(List ab))).bind fun z2=>(gM z2.2.1.1 z2.2.1.2.1 z2.2.1.2.2.1 z2.2.1.2.2.2.1).bind fun z3=>if z3.2.1.2.2.1=true then some ((([]:(List ab)),false,()),()) else if(decide (z3.2.1.2.1 < (U1 x0:Int)))=true then some ((([]:(List ab)),false,()),()) else(oX z3.2.1.2.2.2.1).bind fun z4=>if(!z4.1.1)=true then some ((([]:(List ab)),false,()),()) else some ((z3.2.1.2.2.2.1,true,()),()):=az
theorem Ie {x0}:zM x0=kt x0 ⟨#[34]⟩ 0:=az
theorem D2 {x0}:cQ x0=if(decide (x0 < 0))=true then(cQ (dz_ ea_ (0 - x0))).bind fun z1=>cats ⟨#[45]⟩ z1.1.1 fun y1=>some ((y1,()),()) else n7 x0 ⟨#[]⟩:=az
theorem KE {x0}:Cz x0=if(x0 == 1)=true then some ((⟨#[84,82,85,69]⟩,()),()) else some ((⟨#[70,65,76,83,69]⟩,()),()):=az
theorem EQ {x0}:gf x0=(fG x0).bind fun z1=>if(!z1.1.1)=true then some ((⟨#[]⟩,()),()) else if(x0.1 == 1)=true then(cQ x0.2.1).bind fun z2=>some ((z2.1.1,()),()) else if(x0.1 == 2)=true then cats ⟨#[39]⟩ x0.2.2.1 fun y1=>some ((y1,()),()) else if(x0.1 == 3)=true then(Cz x0.2.1).bind fun z3=>some ((z3.1.1,()),()) else if(x0.1 == 4)=true then(tg x0.2.1).bind fun z4=>some ((z4.1.1,()),()) else some ((⟨#[]⟩,()),()):=az
theorem ER {x0}:ck x0=(dx x0.1).bind fun z1=>if(!z1.1.1)=true then some ((⟨#[]⟩,()),()) else(qd x0.1.1).bind fun z2=>if x0.2.1=true then cats ⟨#[36]⟩ z2.1.1 fun y1=>if x0.2.2.1=true then cats y1 ⟨#[36]⟩ fun y2=>(cQ x0.1.2.1).bind fun z3=>cats y2 z3.1.1 fun y3=>some ((y3,()),()) else(cQ x0.1.2.1).bind fun z4=>cats y1 z4.1.1 fun y4=>some ((y4,()),()) else if x0.2.2.1=true then cats z2.1.1 ⟨#[36]⟩ fun y5=>(cQ x0.1.2.1).bind fun z5=>cats y5 z5.1.1 fun y6=>some ((y6,()),()) else(cQ x0.1.2.1).bind fun z6=>cats z2.1.1 z6.1.1 fun y7=>some ((y7,()),()):=az
theorem KF {x0 x1 x2}:jW x0 x1 x2=ix x0 x1 (al.dflt) fun y1=>if(y1.1 == 1)=true then if(y1.2.2.1.1 == 2)=true then(zM y1.2.2.1.2.2.1).bind fun z1=>some ((z1.1.1,()),()) else(gf y1.2.2.1).bind fun z2=>some ((z2.1.1,()),()) else if(y1.1 == 2)=true then(ck y1.2.2.2.1).bind fun z3=>some ((z3.1.1,()),()) else if(y1.1 == 3)=true then(ck y1.2.2.2.1).bind fun z4=>cats z4.1.1 ⟨#[58]⟩ fun y2=>(ck y1.2.2.2.2.1).bind fun z5=>cats y2 z5.1.1 fun y3=>some ((y3,()),()) else if(y1.1 == 4)=true then ix y1.2.2.2.2.2.1 0 0 fun y4=>(jW x0 y4 5).bind fun z6=>cats ⟨#[45]⟩ z6.1.1 fun y5=>some ((y5,()),()) else if(y1.1 == 5)=true then(qe y1.2.1).bind fun z7=>ix y1.2.2.2.2.2.1 0 0 fun y6=>(jW x0 y6 z7.1.1).bind fun z8=>(iV y1.2.1).bind fun z9=>cats z8.1.1 z9.1.1 fun y7=>ix y1.2.2.2.2.2.1 1 0 fun y8=>(jW x0 y8 (dz_ ea_ (z7.1.1+1))).bind fun z10=>cats y7 z10.1.1 fun y9=>if(decide (z7.1.1 < x2))=true then cats ⟨#[40]⟩ y9 fun y10=>cats y10 ⟨#[41]⟩ fun y11=>some ((y11,()),()) else some ((y9,()),()) else(Fg y1.2.1).bind fun z11=>cats z11.1.1 ⟨#[40]⟩ fun y12=>ku x0 y12 0 y1.1 y1.2.1 y1.2.2.1 y1.2.2.2.1 y1.2.2.2.2.1 y1.2.2.2.2.2.1:=az
theorem Bu {x0}:qg x0=(oX x0).bind fun z1=>if(!z1.1.1)=true then some ((⟨#[]⟩,()),()) else(jW x0 (dz_ ea_ ((T5 x0:Int) - 1)) 0).bind fun z2=>if(decide ((U1 z2.1.1:Int) > 200))=true then some ((⟨#[]⟩,()),()) else some ((z2.1.1,()),()):=az
theorem Gl {x0}:xa x0=if(decide ((U1 x0:Int) > 0))=true then dn x0 0 fun y1=>if(y1 == 45)=true then gJ x0 1 fun y2=>if(S2 y2 == S2 ⟨#[]⟩)=true then some (((0,0,⟨#[]⟩,()),false,()),()) else gQ y2 (y1 == 45) 0 0 ⟨#[]⟩ else if(S2 x0 == S2 ⟨#[]⟩)=true then some (((0,0,⟨#[]⟩,()),false,()),()) else gQ x0 (y1 == 45) 0 0 ⟨#[]⟩ else if(S2 x0 == S2 ⟨#[]⟩)=true then some (((0,0,⟨#[]⟩,()),false,()),()) else gQ x0 false 0 0 ⟨#[]⟩:=az
end Go.Proofs.YtfffplonjaigkaaGreatDoor.Abs
namespace Go.Proofs.YtfffplonjaigkaaGreatDoor.Abs
open Go Go.Proofs.YtfffplonjaigkaaGreatDoor
theorem Ig {x0}:qh x0=(qc x0).bind fun z1=>if(!z1.1.1)=true then some ((⟨#[]⟩,false,()),()) else if(S2 x0 == S2 ⟨#[]⟩)=true then some ((⟨#[]⟩,true,()),()) else dn x0 0 fun y1=>if(y1 == 61)=true then gJ x0 1 fun y2=>(qf y2).bind fun z2=>(qg z2.1.1).bind fun z3=>if(!z2.1.2.1)=true then some ((⟨#[]⟩,false,()),()) else if(S2 z3.1.1 == S2 ⟨#[]⟩)=true then some ((⟨#[]⟩,false,()),()) else if(decide ((dz_ ea_ ((U1 z3.1.1:Int)+1)) > 200))=true then some ((⟨#[]⟩,false,()),()) else cats ⟨#[61]⟩ z3.1.1 fun y3=>some ((y3,true,()),()) else(xa x0).bind fun z4=>if z4.1.2.1=true then(gf z4.1.1).bind fun z5=>some ((z5.1.1,true,()),()) else(oW x0).bind fun z6=>if(!z6.1.2.1)=true then(gf (2,0,x0,())).bind fun z7=>if(decide ((U1 z7.1.1:Int) > 200))=true then some ((⟨#[]⟩,false,()),()) else some ((z7.1.1,true,()),()) else(gf z6.1.1).bind fun z8=>if(decide ((U1 z8.1.1:Int) > 200))=true then some ((⟨#[]⟩,false,()),()) else some ((z8.1.1,true,()),()):=az
theorem Ih {x0 x1}:gw x0 x1=if(decide (x0.2.1 < x1.2.1))=true then some ((true,()),()) else if(x0.2.1 == x1.2.1)=true then some (((decide (x0.1 < x1.1)),()),()) else some ((false,()),()):=az
theorem Ii {x0}:fH x0=if(decide ((T5 x0:Int) > 120))=true then some ((false,()),()) else kv x0 0:=az
theorem Ij {x0 x1}:kY x0 x1=nE x1 0 x0.1 x0.2.1 x0.2.2.1:=az
theorem Ik {x0}:uM x0=if(decide ((U1 x0:Int) < 1))=true then some ((false,()),()) else if(decide ((U1 x0:Int) > 12))=true then some ((false,()),()) else nG x0 0:=az
theorem MA {x0}:tk x0=(kI x0.1 2 1000000000).bind fun z1=>if(!z1.1.1)=true then some ((false,()),()) else if(decide ((T5 x0.2.1:Int) < 1))=true then some ((false,()),()) else if(decide ((T5 x0.2.1:Int) > 40))=true then some ((false,()),()) else if(decide ((T5 x0.2.2.1:Int) < 1))=true then some ((false,()),()) else if(decide ((T5 x0.2.2.1:Int) > 8))=true then some ((false,()),()) else ft 0 x0.1 x0.2.1 x0.2.2.1:=az
theorem Il {x0}:kZ x0=app ([]:(List ah)) x0.2.2.1 24 fun y1=>nH 0 x0.1 x0.2.1 x0.2.2.1 0 x0.1 ([]:(List ag)) ([]:(List ah)) ([]:(List ag)) y1:=az
theorem Im {x0 x1}:ik x0 x1=nI x1 0 x0.1 x0.2.1 x0.2.2.1:=az
theorem Gm {x0 x1 x2}:n3 x0 x1 x2=(tk x0).bind fun z1=>if(!z1.1.1)=true then some (((0,([]:(List ag)),([]:(List ah)),()),1,()),()) else(kZ x0).bind fun z2=>(uM x1).bind fun z3=>if(!z3.1.1)=true then some ((z2.1.1,7,()),()) else(ik x0 x1).bind fun z4=>if(z4.1.1 != 0)=true then some ((z2.1.1,7,()),()) else(kY x0 x2).bind fun z5=>if(decide (z5.1.1 < 0))=true then some ((z2.1.1,3,()),()) else if((T5 x0.2.2.1:Int) == 8)=true then some ((z2.1.1,5,()),()) else dW x1 x2 false 0 x0.1 x0.2.1 x0.2.2.1 0 z2.1.1.1 ([]:(List ah)) ([]:(List ag)) ([]:(List ah)) z2.1.1.2.1 z2.1.1.2.2.1:=az
theorem KG {x0 x1}:mW x0 x1=o7 x0 x1 0:=az
theorem Gn {x0 x1}:lw x0 x1=jw 0 x0.1 x0.2.1 x0.2.2.1 ([x1]:(List Int)):=az
theorem Bv {x0 x1 x2 x3 x4}:l8 x0 x1 x2 x3 x4=gh x1 x2 0 x3 x4 x0 0 ([]:(List ag)) ([]:(List ah)):=az
theorem KH {x0 x1 x2}:CA x0 x1 x2=(lw x0 x1).bind fun z1=>(lw x0 x2).bind fun z2=>me 0 0 z1.1.1 z2.1.1:=az
theorem Gr {x0 x1}:hZ x0 x1=(kY x0 x1).bind fun z1=>if(decide (z1.1.1 < 0))=true then some ((([]:(List ac)),()),()) else ix x0.2.1 z1.1.1 (an.dflt) fun y1=>app ([]:(List ac)) y1.2.2.1 32 fun y2=>some ((y2,()),()):=az
theorem KI {x0 x1}:CB x0 x1=(fH x0).bind fun z1=>if(!z1.1.1)=true then some ((([]:(List aV)),()),()) else(fH x1).bind fun z2=>if(!z2.1.1)=true then some ((([]:(List aV)),()),()) else aZ x0 x1 0 0 ([]:(List aV)):=az
theorem Ou {x0 x1}:Kd x0 x1=uY x0 0 x1.1 x1.2.1:=az
theorem MB {x0 x1 x2}:Bn x0 x1 x2=fu x0 x2 (S2 x2 == S2 ⟨#[]⟩) 0 x1.1 x1.2.1 ([]:(List ac)):=az
theorem KJ {x0 x1 x2}:CC x0 x1 x2=(fH x0).bind fun z1=>if(!z1.1.1)=true then some ((([]:(List ac)),([]:(List aA)),false,()),()) else(fH x1).bind fun z2=>if(!z2.1.1)=true then some ((([]:(List ac)),([]:(List aA)),false,()),()) else(fH x2).bind fun z3=>if(!z3.1.1)=true then some ((([]:(List ac)),([]:(List aA)),false,()),()) else app ([]:(List ac)) x1 32 fun y1=>(CB x0 x2).bind fun z4=>jX x1 0 y1 ([]:(List aA)) z4.1.1:=az
theorem Io {x0 x1 x2 x3}:uN x0 x1 x2 x3=(kZ x0).bind fun z1=>if((T5 x0.2.1:Int) == 40)=true then some ((z1.1.1,0,false,()),()) else if(x0.1 == 1000000000)=true then some ((z1.1.1,0,false,()),()) else app ([]:(List ac)) x3 32 fun y1=>app z1.1.1.2.1 ([(x0.1,x2,y1,())]:(List ag)) 56 fun y2=>(l8 (dz_ ea_ (x0.1+1)) x1 x0.1 y2 z1.1.1.2.2.1).bind fun z2=>some ((z2.1.1,x0.1,true,()),()):=az
theorem Gs {x0 x1 x2}:rs x0 x1 x2=(tk x0).bind fun z1=>if(!z1.1.1)=true then some (((0,([]:(List ag)),([]:(List ah)),()),([]:(List aA)),1,()),()) else(kZ x0).bind fun z2=>(ik x0 x1).bind fun z3=>(ik x0 x2).bind fun z4=>if(z3.1.1 == 0)=true then some ((z2.1.1,([]:(List aA)),2,()),()) else if(z4.1.1 == 0)=true then some ((z2.1.1,([]:(List aA)),2,()),()) else(lw x0 z3.1.1).bind fun z5=>(mW z5.1.1 z4.1.1).bind fun z6=>if z6.1.1=true then some ((z2.1.1,([]:(List aA)),0,()),()) else(lw x0 z4.1.1).bind fun z7=>(mW z7.1.1 z3.1.1).bind fun z8=>if z8.1.1=true then(l8 z2.1.1.1 x1 z4.1.1 z2.1.1.2.1 z2.1.1.2.2.1).bind fun z9=>some ((z9.1.1,([]:(List aA)),0,()),()) else(CA x0 z3.1.1 z4.1.1).bind fun z10=>(hZ x0 z10.1.1).bind fun z11=>(hZ x0 z3.1.1).bind fun z12=>(hZ x0 z4.1.1).bind fun z13=>(CC z11.1.1 z12.1.1 z13.1.1).bind fun z14=>if(decide ((T5 z14.1.2.1:Int) > 0))=true then some ((z2.1.1,z14.1.2.1,6,()),()) else if(!z14.1.2.2.1)=true then some ((z2.1.1,([]:(List aA)),4,()),()) else(uN x0 x1 ([(if z4.1.1 < z3.1.1 then z4.1.1 else z3.1.1),(if z3.1.1 < z4.1.1 then z4.1.1 else z3.1.1)]:(List Int)) z14.1.1).bind fun z15=>if(!z15.1.2.2.1)=true then some ((z2.1.1,([]:(List aA)),5,()),()) else some ((z15.1.1,([]:(List aA)),0,()),()):=az
theorem KK {x0 x1}:tl x0 x1=(tk x0).bind fun z1=>if(!z1.1.1)=true then some ((0,()),()) else(ik x0 x1).bind fun z2=>some ((z2.1.1,()),()):=az
theorem Gt {x0}:cZ x0=(aq 3 x0).bind fun z1=>(aq 4 z1.2.1).bind fun z2=>some ((((dz_ ea_ (1+z1.1.1)),(dz_ ea_ (1+z2.1.1)),()),()),(z2.2.1,())):=az
theorem MC {x0 x1 x2}:tm x0 x1 x2=(qh x2).bind fun z1=>(fH x0).bind fun z2=>if(!z2.1.1)=true then some ((([]:(List ac)),false,()),()) else(dx x1).bind fun z3=>if(!z3.1.1)=true then some ((([]:(List ac)),false,()),()) else if(!z1.1.2.1)=true then some ((([]:(List ac)),false,()),()) else(Bn x0 x1 z1.1.1).bind fun z4=>if(decide ((T5 z4.1.1:Int) > 120))=true then some ((([]:(List ac)),false,()),()) else some ((z4.1.1,true,()),()):=az
theorem ES {x0 x1 x2}:oY x0 x1 x2=(aq (dz_ ea_ (x1+1)) x2).bind fun z1=>kJ x0 z1.1.1 z1.2.1:=az
theorem vR {x0 x1 x2}:il x0 x1 x2=(tk x0).bind fun z1=>if(!z1.1.1)=true then some (((0,([]:(List ag)),([]:(List ah)),()),0,1,()),()) else(ik x0 x1).bind fun z2=>if(z2.1.1 == 0)=true then(kZ x0).bind fun z3=>some ((z3.1.1,0,2,()),()) else(fH x2).bind fun z4=>if(!z4.1.1)=true then(kZ x0).bind fun z5=>some ((z5.1.1,0,4,()),()) else(uN x0 x1 ([z2.1.1]:(List Int)) x2).bind fun z6=>if(!z6.1.2.2.1)=true then some ((z6.1.1,0,5,()),()) else some ((z6.1.1,z6.1.2.1,0,()),()):=az
theorem ET {x0 x1}:cb x0 x1=(aq x0 x1).bind fun z1=>some (((z1.1.1 == (dz_ ea_ (x0 - 1))),()),(z1.2.1,())):=az
theorem EU {x0}:uO x0=kK 0 0 x0:=az
theorem EV {x0 x1 x2}:uP x0 x1 x2=(aq 8 x2).bind fun z1=>if(z1.1.1 == 0)=true then some ((x0,()),(z1.2.1,())) else if(z1.1.1 == 1)=true then some ((x1,()),(z1.2.1,())) else if(decide (x1 < x0))=true then some ((x0,()),(z1.2.1,())) else(uO z1.2.1).bind fun z2=>nz (IntKind.u64.wrap (dz_ ea_ ((dz_ ea_ (x1 - x0))+1))) (some (((dz_ ea_ (x0+(dz_ ea_ (cg_ (Int.fdiv z2.1.1 (2 ^ min (V1 1) (IntKind.bits .u64))) (IntKind.u64.wrap (dz_ ea_ ((dz_ ea_ (x1 - x0))+1))))))),()),(z2.2.1,()))):=az
theorem Gu {x0 x1 x2}:jt x0 x1 x2=(cb 24 x2).bind fun z1=>if z1.1.1=true then(aq 4 z1.2.1).bind fun z2=>inb ([(dz_ ea_ (x0 - 1)),(dz_ ea_ (x1+1)),(-9223372036854775808),9223372036854775807]:(List Int)) z2.1.1 (some (((V5 ([(dz_ ea_ (x0 - 1)),(dz_ ea_ (x1+1)),(-9223372036854775808),9223372036854775807]:(List Int)) (V1 z2.1.1) 0),()),(z2.2.1,()))) else(uP x0 x1 z1.2.1).bind fun z3=>some ((z3.1.1,()),(z3.2.1,())):=az
theorem Gv {x0 x1 x2}:xb x0 x1 x2=(Jc).bind fun z1=>(r7 (dz_ ea_ (x0+1)) x1 x2).bind fun z2=>fM z2.1.1 z2.2.1 0 z1.1.1.1 ([]:(List ag)) ([]:(List ah)) z1.1.1.2.1 z1.1.1.2.2.1:=az
theorem CK {x0 x1}:bh x0 x1=if(x0 == 0)=true then(aq 7 x1).bind fun z1=>if(z1.1.1 == 0)=true then if(z1.1.1 == 0)=true then(cZ z1.2.1).bind fun z2=>(cb 5 z2.2.1).bind fun z3=>(cb 5 z3.2.1).bind fun z4=>(ck (z2.1.1,z3.1.1,z4.1.1,())).bind fun z5=>some ((z5.1.1,()),(z4.2.1,())) else if(z1.1.1 == 3)=true then(aq 6 z1.2.1).bind fun z6=>inb ([⟨#[34,97,34]⟩,⟨#[34,34]⟩,⟨#[84,82,85,69]⟩,⟨#[70,65,76,83,69]⟩,⟨#[35,82,69,70,33]⟩,⟨#[34,113,34,34,34]⟩]:(List S0)) z6.1.1 (some (((V5 ([⟨#[34,97,34]⟩,⟨#[34,34]⟩,⟨#[84,82,85,69]⟩,⟨#[70,65,76,83,69]⟩,⟨#[35,82,69,70,33]⟩,⟨#[34,113,34,34,34]⟩]:(List S0)) (V1 z6.1.1) ⟨#[]⟩),()),(z6.2.1,()))) else(aq 12 z1.2.1).bind fun z7=>(cQ z7.1.1).bind fun z8=>some ((z8.1.1,()),(z7.2.1,())) else if(z1.1.1 == 1)=true then if(z1.1.1 == 1)=true then(cZ z1.2.1).bind fun z9=>(cb 5 z9.2.1).bind fun z10=>(cb 5 z10.2.1).bind fun z11=>(ck (z9.1.1,z10.1.1,z11.1.1,())).bind fun z12=>some ((z12.1.1,()),(z11.2.1,())) else if(z1.1.1 == 3)=true then(aq 6 z1.2.1).bind fun z13=>inb ([⟨#[34,97,34]⟩,⟨#[34,34]⟩,⟨#[84,82,85,69]⟩,⟨#[70,65,76,83,69]⟩,⟨#[35,82,69,70,33]⟩,⟨#[34,113,34,34,34]⟩]:(List S0)) z13.1.1 (some (((V5 ([⟨#[34,97,34]⟩,⟨#[34,34]⟩,⟨#[84,82,85,69]⟩,⟨#[70,65,76,83,69]⟩,⟨#[35,82,69,70,33]⟩,⟨#[34,113,34,34,34]⟩]:(List S0)) (V1 z13.1.1) ⟨#[]⟩),()),(z13.2.1,()))) else(aq 12 z1.2.1).bind fun z14=>(cQ z14.1.1).bind fun z15=>some ((z15.1.1,()),(z14.2.1,())) else if(z1.1.1 == 2)=true then(cZ z1.2.1).bind fun z16=>(cb 5 z16.2.1).bind fun z17=>(cb 5 z17.2.1).bind fun z18=>(ck (z16.1.1,z17.1.1,z18.1.1,())).bind fun z19=>some ((z19.1.1,()),(z18.2.1,())) else if(z1.1.1 == 3)=true then(aq 6 z1.2.1).bind fun z20=>inb ([⟨#[34,97,34]⟩,⟨#[34,34]⟩,⟨#[84,82,85,69]⟩,⟨#[70,65,76,83,69]⟩,⟨#[35,82,69,70,33]⟩,⟨#[34,113,34,34,34]⟩]:(List S0)) z20.1.1 (some (((V5 ([⟨#[34,97,34]⟩,⟨#[34,34]⟩,⟨#[84,82,85,69]⟩,⟨#[70,65,76,83,69]⟩,⟨#[35,82,69,70,33]⟩,⟨#[34,113,34,34,34]⟩]:(List S0)) (V1 z20.1.1) ⟨#[]⟩),()),(z20.2.1,()))) else(aq 12 z1.2.1).bind fun z21=>(cQ z21.1.1).bind fun z22=>some ((z22.1.1,()),(z21.2.1,())) else(cb 3 x1).bind fun z23=>if z23.1.1=true then(aq 7 z23.2.1).bind fun z24=>if(z24.1.1 == 0)=true then if(z24.1.1 == 0)=true then(cZ z24.2.1).bind fun z25=>(cb 5 z25.2.1).bind fun z26=>(cb 5 z26.2.1).bind fun z27=>(ck (z25.1.1,z26.1.1,z27.1.1,())).bind fun z28=>some ((z28.1.1,()),(z27.2.1,())) else if(z24.1.1 == 3)=true then(aq 6 z24.2.1).bind fun z29=>inb ([⟨#[34,97,34]⟩,⟨#[34,34]⟩,⟨#[84,82,85,69]⟩,⟨#[70,65,76,83,69]⟩,⟨#[35,82,69,70,33]⟩,⟨#[34,113,34,34,34]⟩]:(List S0)) z29.1.1 (some (((V5 ([⟨#[34,97,34]⟩,⟨#[34,34]⟩,⟨#[84,82,85,69]⟩,⟨#[70,65,76,83,69]⟩,⟨#[35,82,69,70,33]⟩,⟨#[34,113,34,34,34]⟩]:(List S0)) (V1 z29.1.1) ⟨#[]⟩),()),(z29.2.1,()))) else(aq 12 z24.2.1).bind fun z30=>(cQ z30.1.1).bind fun z31=>some ((z31.1.1,()),(z30.2.1,())) else if(z24.1.1 == 1)=true then if(z24.1.1 == 1)=true then(cZ z24.2.1).bind fun z32=>(cb 5 z32.2.1).bind fun z33=>(cb 5 z33.2.1).bind fun z34=>(ck (z32.1.1,z33.1.1,z34.1.1,())).bind fun z35=>some ((z35.1.1,()),(z34.2.1,())) else if(z24.1.1 == 3)=true then(aq 6 z24.2.1).bind fun z36=>inb ([⟨#[34,97,34]⟩,⟨#[34,34]⟩,⟨#[84,82,85,69]⟩,⟨#[70,65,76,83,69]⟩,⟨#[35,82,69,70,33]⟩,⟨#[34,113,34,34,34]⟩]:(List S0)) z36.1.1 (some (((V5 ([⟨#[34,97,34]⟩,⟨#[34,34]⟩,⟨#[84,82,85,69]⟩,⟨#[70,65,76,83,69]⟩,⟨#[35,82,69,70,33]⟩,⟨#[34,113,34,34,34]⟩]:(List S0)) (V1 z36.1.1) ⟨#[]⟩),()),(z36.2.1,()))) else(aq 12 z24.2.1).bind fun z37=>(cQ z37.1.1).bind fun z38=>some ((z38.1.1,()),(z37.2.1,())) else if(z24.1.1 == 2)=true then(cZ z24.2.1).bind fun z39=>(cb 5 z39.2.1).bind fun z40=>(cb 5 z40.2.1).bind fun z41=>(ck (z39.1.1,z40.1.1,z41.1.1,())).bind fun z42=>some ((z42.1.1,()),(z41.2.1,())) else if(z24.1.1 == 3)=true then(aq 6 z24.2.1).bind fun z43=>inb ([⟨#[34,97,34]⟩,⟨#[34,34]⟩,⟨#[84,82,85,69]⟩,⟨#[70,65,76,83,69]⟩,⟨#[35,82,69,70,33]⟩,⟨#[34,113,34,34,34]⟩]:(List S0)) z43.1.1 (some (((V5 ([⟨#[34,97,34]⟩,⟨#[34,34]⟩,⟨#[84,82,85,69]⟩,⟨#[70,65,76,83,69]⟩,⟨#[35,82,69,70,33]⟩,⟨#[34,113,34,34,34]⟩]:(List S0)) (V1 z43.1.1) ⟨#[]⟩),()),(z43.2.1,()))) else(aq 12 z24.2.1).bind fun z44=>(cQ z44.1.1).bind fun z45=>some ((z45.1.1,()),(z44.2.1,())) else(aq 8 z23.2.1).bind fun z46=>if(z46.1.1 == 0)=true then(bh (dz_ ea_ (x0 - 1)) z46.2.1).bind fun z47=>cats ⟨#[45]⟩ z47.1.1 fun y1=>some ((y1,()),(z47.2.1,())) else if(z46.1.1 == 1)=true then(bh (dz_ ea_ (x0 - 1)) z46.2.1).bind fun z48=>cats ⟨#[40]⟩ z48.1.1 fun y2=>cats y2 ⟨#[41]⟩ fun y3=>some ((y3,()),(z48.2.1,())) else if(z46.1.1 == 2)=true then if(z46.1.1 == 2)=true then(l9 z46.2.1).bind fun z49=>(aq 6 z49.2.1).bind fun z50=>inb ([⟨#[83,85,77]⟩,⟨#[77,73,78]⟩,⟨#[77,65,88]⟩,⟨#[67,79,85,78,84]⟩,⟨#[65,78,68]⟩,⟨#[79,82]⟩]:(List S0)) z50.1.1 (cats (V5 ([⟨#[83,85,77]⟩,⟨#[77,73,78]⟩,⟨#[77,65,88]⟩,⟨#[67,79,85,78,84]⟩,⟨#[65,78,68]⟩,⟨#[79,82]⟩]:(List S0)) (V1 z50.1.1) ⟨#[]⟩) ⟨#[40]⟩ fun y4=>(ck (z49.1.1.1,false,false,())).bind fun z51=>cats y4 z51.1.1 fun y5=>cats y5 ⟨#[58]⟩ fun y6=>(ck (z49.1.1.2.1,false,false,())).bind fun z52=>cats y6 z52.1.1 fun y7=>cats y7 ⟨#[44]⟩ fun y8=>(bh (dz_ ea_ (x0 - 1)) z50.2.1).bind fun z53=>cats y8 z53.1.1 fun y9=>cats y9 ⟨#[41]⟩ fun y10=>some ((y10,()),(z53.2.1,()))) else if(z46.1.1 == 4)=true then(bh (dz_ ea_ (x0 - 1)) z46.2.1).bind fun z54=>cats ⟨#[73,70,40]⟩ z54.1.1 fun y11=>cats y11 ⟨#[44]⟩ fun y12=>(bh (dz_ ea_ (x0 - 1)) z54.2.1).bind fun z55=>cats y12 z55.1.1 fun y13=>cats y13 ⟨#[44]⟩ fun y14=>(bh (dz_ ea_ (x0 - 1)) z55.2.1).bind fun z56=>cats y14 z56.1.1 fun y15=>cats y15 ⟨#[41]⟩ fun y16=>some ((y16,()),(z56.2.1,())) else if(z46.1.1 == 5)=true then(aq 3 z46.2.1).bind fun z57=>inb ([⟨#[78,79,84]⟩,⟨#[65,66,83]⟩,⟨#[76,69,78]⟩]:(List S0)) z57.1.1 (cats (V5 ([⟨#[78,79,84]⟩,⟨#[65,66,83]⟩,⟨#[76,69,78]⟩]:(List S0)) (V1 z57.1.1) ⟨#[]⟩) ⟨#[40]⟩ fun y17=>(bh (dz_ ea_ (x0 - 1)) z57.2.1).bind fun z58=>cats y17 z58.1.1 fun y18=>cats y18 ⟨#[41]⟩ fun y19=>some ((y19,()),(z58.2.1,()))) else(bh (dz_ ea_ (x0 - 1)) z46.2.1).bind fun z59=>(aq 11 z59.2.1).bind fun z60=>(iV (dz_ ea_ (1+z60.1.1))).bind fun z61=>cats z59.1.1 z61.1.1 fun y20=>(bh (dz_ ea_ (x0 - 1)) z60.2.1).bind fun z62=>cats y20 z62.1.1 fun y21=>some ((y21,()),(z62.2.1,())) else if(z46.1.1 == 3)=true then(l9 z46.2.1).bind fun z63=>(aq 6 z63.2.1).bind fun z64=>inb ([⟨#[83,85,77]⟩,⟨#[77,73,78]⟩,⟨#[77,65,88]⟩,⟨#[67,79,85,78,84]⟩,⟨#[65,78,68]⟩,⟨#[79,82]⟩]:(List S0)) z64.1.1 (cats (V5 ([⟨#[83,85,77]⟩,⟨#[77,73,78]⟩,⟨#[77,65,88]⟩,⟨#[67,79,85,78,84]⟩,⟨#[65,78,68]⟩,⟨#[79,82]⟩]:(List S0)) (V1 z64.1.1) ⟨#[]⟩) ⟨#[40]⟩ fun y22=>(ck (z63.1.1.1,false,false,())).bind fun z65=>cats y22 z65.1.1 fun y23=>cats y23 ⟨#[58]⟩ fun y24=>(ck (z63.1.1.2.1,false,false,())).bind fun z66=>cats y24 z66.1.1 fun y25=>cats y25 ⟨#[44]⟩ fun y26=>(bh (dz_ ea_ (x0 - 1)) z64.2.1).bind fun z67=>cats y26 z67.1.1 fun y27=>cats y27 ⟨#[41]⟩ fun y28=>some ((y28,()),(z67.2.1,()))) else if(z46.1.1 == 4)=true then(bh (dz_ ea_ (x0 - 1)) z46.2.1).bind fun z68=>cats ⟨#[73,70,40]⟩ z68.1.1 fun y29=>cats y29 ⟨#[44]⟩ fun y30=>(bh (dz_ ea_ (x0 - 1)) z68.2.1).bind fun z69=>cats y30 z69.1.1 fun y31=>cats y31 ⟨#[44]⟩ fun y32=>(bh (dz_ ea_ (x0 - 1)) z69.2.1).bind fun z70=>cats y32 z70.1.1 fun y33=>cats y33 ⟨#[41]⟩ fun y34=>some ((y34,()),(z70.2.1,())) else if(z46.1.1 == 5)=true then(aq 3 z46.2.1).bind fun z71=>inb ([⟨#[78,79,84]⟩,⟨#[65,66,83]⟩,⟨#[76,69,78]⟩]:(List S0)) z71.1.1 (cats (V5 ([⟨#[78,79,84]⟩,⟨#[65,66,83]⟩,⟨#[76,69,78]⟩]:(List S0)) (V1 z71.1.1) ⟨#[]⟩) ⟨#[40]⟩ fun y35=>(bh (dz_ ea_ (x0 - 1)) z71.2.1).bind fun z72=>cats y35 z72.1.1 fun y36=>cats y36 ⟨#[41]⟩ fun y37=>some ((y37,()),(z72.2.1,()))) else(bh (dz_ ea_ (x0 - 1)) z46.2.1).bind fun z73=>(aq 11 z73.2.1).bind fun z74=>(iV (dz_ ea_ (1+z74.1.1))).bind fun z75=>cats z73.1.1 z75.1.1 fun y38=>(bh (dz_ ea_ (x0 - 1)) z74.2.1).bind fun z76=>cats y38 z76.1.1 fun y39=>some ((y39,()),(z76.2.1,())):=az
theorem EW {x0}:l9 x0=(cZ x0).bind fun z1=>(cZ z1.2.1).bind fun z2=>(cb 20 z2.2.1).bind fun z3=>if z3.1.1=true then(jt 1 99 z3.2.1).bind fun z4=>some (((((if z2.1.1.1 < z1.1.1.1 then z2.1.1.1 else z1.1.1.1),(if z2.1.1.2.1 < z1.1.1.2.1 then z2.1.1.2.1 else z1.1.1.2.1),()),((if z1.1.1.1 < z2.1.1.1 then z2.1.1.1 else z1.1.1.1),z4.1.1,()),()),()),(z4.2.1,())) else some (((((if z2.1.1.1 < z1.1.1.1 then z2.1.1.1 else z1.1.1.1),(if z2.1.1.2.1 < z1.1.1.2.1 then z2.1.1.2.1 else z1.1.1.2.1),()),((if z1.1.1.1 < z2.1.1.1 then z2.1.1.1 else z1.1.1.1),(if z1.1.1.2.1 < z2.1.1.2.1 then z2.1.1.2.1 else z1.1.1.2.1),()),()),()),(z3.2.1,())):=az
end Go.Proofs.YtfffplonjaigkaaGreatDoor.Abs
namespace Go.Proofs.YtfffplonjaigkaaGreatDoor.Abs
open Go Go.Proofs.YtfffplonjaigkaaGreatDoor
theorem CL {x0}:ko x0=(aq 8 x0).bind fun z1=>if(z1.1.1 == 0)=true then if(z1.1.1 == 0)=true then(bh 2 z1.2.1).bind fun z2=>cats ⟨#[61]⟩ z2.1.1 fun y1=>some ((y1,()),(z2.2.1,())) else if(z1.1.1 == 3)=true then if(z1.1.1 == 3)=true then(aq 20 z1.2.1).bind fun z3=>(cQ z3.1.1).bind fun z4=>some ((z4.1.1,()),(z3.2.1,())) else if(z1.1.1 == 5)=true then(aq 8 z1.2.1).bind fun z5=>inb ([⟨#[84,82,85,69]⟩,⟨#[104,101,108,108,111]⟩,⟨#[39,49,50]⟩,⟨#[35,68,73,86,33]⟩,⟨#[45,53]⟩,⟨#[48,48,55]⟩,⟨#[39]⟩,⟨#[35,120]⟩]:(List S0)) z5.1.1 (some (((V5 ([⟨#[84,82,85,69]⟩,⟨#[104,101,108,108,111]⟩,⟨#[39,49,50]⟩,⟨#[35,68,73,86,33]⟩,⟨#[45,53]⟩,⟨#[48,48,55]⟩,⟨#[39]⟩,⟨#[35,120]⟩]:(List S0)) (V1 z5.1.1) ⟨#[]⟩),()),(z5.2.1,()))) else if(z1.1.1 == 6)=true then some ((⟨#[]⟩,()),(z1.2.1,())) else(bh 1 z1.2.1).bind fun z6=>cats ⟨#[61]⟩ z6.1.1 fun y2=>some ((y2,()),(z6.2.1,())) else if(z1.1.1 == 4)=true then(aq 20 z1.2.1).bind fun z7=>(cQ z7.1.1).bind fun z8=>some ((z8.1.1,()),(z7.2.1,())) else if(z1.1.1 == 5)=true then(aq 8 z1.2.1).bind fun z9=>inb ([⟨#[84,82,85,69]⟩,⟨#[104,101,108,108,111]⟩,⟨#[39,49,50]⟩,⟨#[35,68,73,86,33]⟩,⟨#[45,53]⟩,⟨#[48,48,55]⟩,⟨#[39]⟩,⟨#[35,120]⟩]:(List S0)) z9.1.1 (some (((V5 ([⟨#[84,82,85,69]⟩,⟨#[104,101,108,108,111]⟩,⟨#[39,49,50]⟩,⟨#[35,68,73,86,33]⟩,⟨#[45,53]⟩,⟨#[48,48,55]⟩,⟨#[39]⟩,⟨#[35,120]⟩]:(List S0)) (V1 z9.1.1) ⟨#[]⟩),()),(z9.2.1,()))) else if(z1.1.1 == 6)=true then some ((⟨#[]⟩,()),(z1.2.1,())) else(bh 1 z1.2.1).bind fun z10=>cats ⟨#[61]⟩ z10.1.1 fun y3=>some ((y3,()),(z10.2.1,())) else if(z1.1.1 == 1)=true then if(z1.1.1 == 1)=true then(bh 2 z1.2.1).bind fun z11=>cats ⟨#[61]⟩ z11.1.1 fun y4=>some ((y4,()),(z11.2.1,())) else if(z1.1.1 == 3)=true then if(z1.1.1 == 3)=true then(aq 20 z1.2.1).bind fun z12=>(cQ z12.1.1).bind fun z13=>some ((z13.1.1,()),(z12.2.1,())) else if(z1.1.1 == 5)=true then(aq 8 z1.2.1).bind fun z14=>inb ([⟨#[84,82,85,69]⟩,⟨#[104,101,108,108,111]⟩,⟨#[39,49,50]⟩,⟨#[35,68,73,86,33]⟩,⟨#[45,53]⟩,⟨#[48,48,55]⟩,⟨#[39]⟩,⟨#[35,120]⟩]:(List S0)) z14.1.1 (some (((V5 ([⟨#[84,82,85,69]⟩,⟨#[104,101,108,108,111]⟩,⟨#[39,49,50]⟩,⟨#[35,68,73,86,33]⟩,⟨#[45,53]⟩,⟨#[48,48,55]⟩,⟨#[39]⟩,⟨#[35,120]⟩]:(List S0)) (V1 z14.1.1) ⟨#[]⟩),()),(z14.2.1,()))) else if(z1.1.1 == 6)=true then some ((⟨#[]⟩,()),(z1.2.1,())) else(bh 1 z1.2.1).bind fun z15=>cats ⟨#[61]⟩ z15.1.1 fun y5=>some ((y5,()),(z15.2.1,())) else if(z1.1.1 == 4)=true then(aq 20 z1.2.1).bind fun z16=>(cQ z16.1.1).bind fun z17=>some ((z17.1.1,()),(z16.2.1,())) else if(z1.1.1 == 5)=true then(aq 8 z1.2.1).bind fun z18=>inb ([⟨#[84,82,85,69]⟩,⟨#[104,101,108,108,111]⟩,⟨#[39,49,50]⟩,⟨#[35,68,73,86,33]⟩,⟨#[45,53]⟩,⟨#[48,48,55]⟩,⟨#[39]⟩,⟨#[35,120]⟩]:(List S0)) z18.1.1 (some (((V5 ([⟨#[84,82,85,69]⟩,⟨#[104,101,108,108,111]⟩,⟨#[39,49,50]⟩,⟨#[35,68,73,86,33]⟩,⟨#[45,53]⟩,⟨#[48,48,55]⟩,⟨#[39]⟩,⟨#[35,120]⟩]:(List S0)) (V1 z18.1.1) ⟨#[]⟩),()),(z18.2.1,()))) else if(z1.1.1 == 6)=true then some ((⟨#[]⟩,()),(z1.2.1,())) else(bh 1 z1.2.1).bind fun z19=>cats ⟨#[61]⟩ z19.1.1 fun y6=>some ((y6,()),(z19.2.1,())) else if(z1.1.1 == 2)=true then(bh 2 z1.2.1).bind fun z20=>cats ⟨#[61]⟩ z20.1.1 fun y7=>some ((y7,()),(z20.2.1,())) else if(z1.1.1 == 3)=true then if(z1.1.1 == 3)=true then(aq 20 z1.2.1).bind fun z21=>(cQ z21.1.1).bind fun z22=>some ((z22.1.1,()),(z21.2.1,())) else if(z1.1.1 == 5)=true then(aq 8 z1.2.1).bind fun z23=>inb ([⟨#[84,82,85,69]⟩,⟨#[104,101,108,108,111]⟩,⟨#[39,49,50]⟩,⟨#[35,68,73,86,33]⟩,⟨#[45,53]⟩,⟨#[48,48,55]⟩,⟨#[39]⟩,⟨#[35,120]⟩]:(List S0)) z23.1.1 (some (((V5 ([⟨#[84,82,85,69]⟩,⟨#[104,101,108,108,111]⟩,⟨#[39,49,50]⟩,⟨#[35,68,73,86,33]⟩,⟨#[45,53]⟩,⟨#[48,48,55]⟩,⟨#[39]⟩,⟨#[35,120]⟩]:(List S0)) (V1 z23.1.1) ⟨#[]⟩),()),(z23.2.1,()))) else if(z1.1.1 == 6)=true then some ((⟨#[]⟩,()),(z1.2.1,())) else(bh 1 z1.2.1).bind fun z24=>cats ⟨#[61]⟩ z24.1.1 fun y8=>some ((y8,()),(z24.2.1,())) else if(z1.1.1 == 4)=true then(aq 20 z1.2.1).bind fun z25=>(cQ z25.1.1).bind fun z26=>some ((z26.1.1,()),(z25.2.1,())) else if(z1.1.1 == 5)=true then(aq 8 z1.2.1).bind fun z27=>inb ([⟨#[84,82,85,69]⟩,⟨#[104,101,108,108,111]⟩,⟨#[39,49,50]⟩,⟨#[35,68,73,86,33]⟩,⟨#[45,53]⟩,⟨#[48,48,55]⟩,⟨#[39]⟩,⟨#[35,120]⟩]:(List S0)) z27.1.1 (some (((V5 ([⟨#[84,82,85,69]⟩,⟨#[104,101,108,108,111]⟩,⟨#[39,49,50]⟩,⟨#[35,68,73,86,33]⟩,⟨#[45,53]⟩,⟨#[48,48,55]⟩,⟨#[39]⟩,⟨#[35,120]⟩]:(List S0)) (V1 z27.1.1) ⟨#[]⟩),()),(z27.2.1,()))) else if(z1.1.1 == 6)=true then some ((⟨#[]⟩,()),(z1.2.1,())) else(bh 1 z1.2.1).bind fun z28=>cats ⟨#[61]⟩ z28.1.1 fun y9=>some ((y9,()),(z28.2.1,())):=az
theorem Bw {x0 x1}:qi x0 x1=(aq (dz_ ea_ (x0+1)) x1).bind fun z1=>gi z1.1.1 z1.2.1 ([]:(List ac)):=az
theorem yE {x0}:mX x0=(Jb x0).bind fun z1=>(xb 6 z1.1.1.1 z1.1.1.2.1).bind fun z2=>(aq 3 z2.2.1).bind fun z3=>inb ([⟨#[109,97,105,110]⟩,⟨#[97]⟩,⟨#[98]⟩]:(List S0)) z3.1.1 ((qi 5 z3.2.1).bind fun z4=>some ((z2.1.1,(V5 ([⟨#[109,97,105,110]⟩,⟨#[97]⟩,⟨#[98]⟩]:(List S0)) (V1 z3.1.1) ⟨#[]⟩),z4.1.1,()),())):=az
theorem KL {x0 x1 x2}:dJ x0 x1 x2=if(decide (x0≥x1))=true then some (((decide (x0≤x2)),()),()) else some ((false,()),()):=az
theorem yF {x0 x1}:tn x0 x1=some (((x0.1 == x1),()),(x1,())):=az
theorem gV {x0 x1}:dT x0 x1=bE x0 (T5 x0:Int) 0 x1:=az
theorem Bx {x0 x1}:dQ x0 x1=(dT x0.2.1 x1).bind fun z1=>some ((z1.1.1,()),()):=az
theorem EX {x0 x1 x2}:oZ x0 x1 x2=dE x1 x2 x1 (T5 x1:Int) 0 x0.1 x0.2.1 x0.2.2.1:=az
theorem MD {x0}:qj x0=(dJ x0.1 1 52).bind fun z1=>if z1.1.1=true then(dJ x0.2.1 1 99).bind fun z2=>some ((z2.1.1,()),()) else some ((false,()),()):=az
theorem n8 {x0}:ma x0=some (((x0 != x0),()),()):=az
theorem u2 {x0 x1}:gD x0 x1=(ma x0).bind fun z1=>(ma x1).bind fun z2=>if z1.1.1=true then if z2.1.1=true then some ((0,()),()) else some (((-1),()),()) else if z2.1.1=true then some ((1,()),()) else if(decide (x0 < x1))=true then some (((-1),()),()) else if(decide (x0 > x1))=true then some ((1,()),()) else some ((0,()),()):=az
theorem EY {x0}:uQ x0=kL 0 x0 (T5 x0:Int) 0:=az
theorem Bz {x0 x1}:qk x0 x1=(gD x0.2.1 x1.2.1).bind fun z1=>(gD x0.1 x1.1).bind fun z2=>(uQ ([z1.1.1,z2.1.1]:(List Int))).bind fun z3=>some ((z3.1.1,()),()):=az
theorem KM {x0 x1}:to x0 x1=o8 x0 x1 (U1 x0:Int) 0:=az
theorem qr {x0 x1}:dK x0 x1=if(decide ((U1 x0:Int)≥(U1 x1:Int)))=true then yQ x0 (U1 x1:Int) fun y1=>some (((S2 y1 == S2 x1),()),()) else some ((false,()),()):=az
theorem qu {x0 x1}:lx x0 x1=(dK x0 x1).bind fun z1=>if(!z1.1.1)=true then some ((x0,false,()),()) else gJ x0 (U1 x1:Int) fun y1=>some ((y1,true,()),()):=az
theorem u6 {x0 x1}:cu x0 x1=(lx x0 x1).bind fun z1=>some (z1.1,()):=az
theorem wj {x0 x1}:fI x0 x1=(lW) [.val .str x0,.val .str x1] []:=az
theorem yG {x0 x1 x2}:fB x0 x1 x2=(fI x0 ⟨#[32]⟩).bind fun z1=>some ((),((z1.1.1,x2,x1,()),())):=az
theorem u7 {x0 x1}:dk x0 x1=(dK x0 x1).bind fun z1=>some ((z1.1.1,()),()):=az
theorem BA {x0 x1 x2}:mb x0 x1 x2=(fB x0 x1 x2).bind fun z1=>jb (T5 ([⟨#[60,62]⟩,⟨#[60,61]⟩,⟨#[62,61]⟩,⟨#[60]⟩,⟨#[62]⟩,⟨#[61]⟩,⟨#[38]⟩,⟨#[43]⟩,⟨#[45]⟩,⟨#[42]⟩,⟨#[47]⟩,⟨#[40]⟩,⟨#[41]⟩,⟨#[44]⟩,⟨#[58]⟩]:(List S0)):Int) 0 z1.2.1.1 z1.2.1.2.2.1 ([⟨#[60,62]⟩,⟨#[60,61]⟩,⟨#[62,61]⟩,⟨#[60]⟩,⟨#[62]⟩,⟨#[61]⟩,⟨#[38]⟩,⟨#[43]⟩,⟨#[45]⟩,⟨#[42]⟩,⟨#[47]⟩,⟨#[40]⟩,⟨#[41]⟩,⟨#[44]⟩,⟨#[58]⟩]:(List S0)) z1.2.1.2.1:=az
theorem BB {x0 x1 x2 x3}:bC x0 x1 x2 x3=(mb x1 x2 x3).bind fun z1=>if(! (S2 z1.1.1 == S2 x0))=true then some ((false,()),(z1.2.1,())) else gJ z1.2.1.1 (U1 x0:Int) fun y1=>some ((true,()),((y1,z1.2.1.2.1,z1.2.1.2.2.1,()),())):=az
theorem qv {x0 x1 x2 x3}:iE x0 x1 x2 x3=if(decide (x0 > 400))=true then some (((-1),()),((x1,x3,true,()),())) else if x2=true then some (((-1),()),((x1,x3,x2,()),())) else(bC ⟨#[45]⟩ x1 x2 x3).bind fun z1=>if z1.1.1=true then(iE (dz_ ea_ (x0+1)) z1.2.1.1 z1.2.1.2.2.1 z1.2.1.2.1).bind fun z2=>(aX (4,0,(0,0,⟨#[]⟩,()),((0,0,()),false,false,()),((0,0,()),false,false,()),([z2.1.1]:(List Int)),()) z2.2.1.1 z2.2.1.2.2.1 z2.2.1.2.1).bind fun z3=>some ((z3.1.1,()),(z3.2.1,())) else(md x0 z1.2.1.1 z1.2.1.2.2.1 z1.2.1.2.1).bind fun z4=>some ((z4.1.1,()),(z4.2.1,())):=az
theorem CM {x0 x1 x2 x3}:aX x0 x1 x2 x3=if x2=true then some (((dz_ ea_ ((T5 x3:Int) - 1)),()),((x1,x3,true,()),())) else if(! (decide ((T5 x3:Int)≥60)))=true then app x3 ([x0]:(List ab)) 120 fun y1=>some (((dz_ ea_ ((T5 y1:Int) - 1)),()),((x1,y1,(decide ((T5 x3:Int)≥60)),()),())) else some (((dz_ ea_ ((T5 x3:Int) - 1)),()),((x1,x3,(decide ((T5 x3:Int)≥60)),()),())):=az
theorem CN {x0 x1}:strings_Cut x0 x1=(yh) [.val .str x0,.val .str x1] []:=az
theorem wk {x0 x1 x2 x3}:bN x0 x1 x2 x3=(aX (1,0,x0,((0,0,()),false,false,()),((0,0,()),false,false,()),([]:(List Int)),()) x1 x2 x3).bind fun z1=>some ((z1.1.1,()),(z1.2.1,())):=az
theorem yH {x0 x1 x2}:gN x0 x1 x2=gJ x0 1 fun y1=>gE ⟨#[]⟩ y1 x0 x1 x2:=az
theorem EZ {x0}:mc x0=inb ([⟨#[]⟩,⟨#[35,68,73,86,33]⟩,⟨#[35,84,89,80,69,33]⟩,⟨#[35,82,69,70,33]⟩,⟨#[35,79,86,69,82,33]⟩,⟨#[35,67,89,67,76,69,33]⟩]:(List S0)) x0 (some (((V5 ([⟨#[]⟩,⟨#[35,68,73,86,33]⟩,⟨#[35,84,89,80,69,33]⟩,⟨#[35,82,69,70,33]⟩,⟨#[35,79,86,69,82,33]⟩,⟨#[35,67,89,67,76,69,33]⟩]:(List S0)) (V1 x0) ⟨#[]⟩),()),())):=az
theorem ME {x0}:Bo x0=some (((4,x0,⟨#[]⟩,()),()),()):=az
theorem BC {x0 x1 x2}:gP x0 x1 x2=(fB x0 x1 x2).bind fun z1=>(fI z1.2.1.1 ⟨#[65,66,67,68,69,70,71,72,73,74,75,76,77,78,79,80,81,82,83,84,85,86,87,88,89,90,48,49,50,51,52,53,54,55,56,57,36]⟩).bind fun z2=>yQ z1.2.1.1 (dz_ ea_ ((U1 z1.2.1.1:Int) - (U1 z2.1.1:Int))) fun y1=>gJ z1.2.1.1 (dz_ ea_ ((U1 z1.2.1.1:Int) - (U1 z2.1.1:Int))) fun y2=>some ((y1,()),((y2,z1.2.1.2.1,z1.2.1.2.2.1,()),())):=az
theorem Ip {x0}:fJ x0=if(x0.1 == 2)=true then if(x0.2.1 == 0)=true then(to x0.2.2.1 200).bind fun z1=>some ((z1.1.1,()),()) else some ((false,()),()) else if(! (S2 x0.2.2.1 == S2 ⟨#[]⟩))=true then some ((false,()),()) else if(x0.1 == 0)=true then some (((x0.2.1 == 0),()),()) else if(x0.1 == 1)=true then(dJ x0.2.1 (-1000000000000000) 1000000000000000).bind fun z2=>some ((z2.1.1,()),()) else if(x0.1 == 3)=true then(dJ x0.2.1 0 1).bind fun z3=>some ((z3.1.1,()),()) else if(x0.1 == 4)=true then(dJ x0.2.1 1 5).bind fun z4=>some ((z4.1.1,()),()) else some ((false,()),()):=az
theorem va {x0 x1}:oL x0 x1=(yg) [.val (.int .i64) x0,.val (.int .i64) x1] []:=az
theorem Iq {x0}:en x0=(oL x0 10).bind fun z1=>some ((z1.1.1,()),()):=az
theorem E0 {x0}:ey x0=if(x0.1 == 1)=true then(en x0.2.1).bind fun z1=>some ((z1.1.1,()),()) else if(x0.1 == 2)=true then cats ⟨#[39]⟩ x0.2.2.1 fun y1=>some ((y1,()),()) else if(x0.1 == 3)=true then inb ([⟨#[70,65,76,83,69]⟩,⟨#[84,82,85,69]⟩]:(List S0)) x0.2.1 (some (((V5 ([⟨#[70,65,76,83,69]⟩,⟨#[84,82,85,69]⟩]:(List S0)) (V1 x0.2.1) ⟨#[]⟩),()),())) else if(x0.1 == 4)=true then(mc x0.2.1).bind fun z2=>some ((z2.1.1,()),()) else some ((⟨#[]⟩,()),()):=az
theorem MF {x0}:Bp x0=if x0=true then some (((3,1,⟨#[]⟩,()),()),()) else some (((3,0,⟨#[]⟩,()),()),()):=az
theorem wl {x0 x1 x2}:fK x0 x1 x2=(lX) [.val .str x0,.val (.int .i64) x1,.val (.int .i64) x2] []:=az
theorem KN {x0}:yi x0=some (((1,x0,⟨#[]⟩,()),()),()):=az
theorem E1 {x0}:im x0=(cu x0 ⟨#[39]⟩).bind fun z1=>if z1.1.2.1=true then(fJ (2,0,z1.1.1,())).bind fun z2=>if(!z2.1.1)=true then some (((0,0,⟨#[]⟩,()),false,()),()) else(ey (2,0,z1.1.1,())).bind fun z3=>if(! (S2 z3.1.1 == S2 x0))=true then some (((0,0,⟨#[]⟩,()),false,()),()) else some (((2,0,z1.1.1,()),true,()),()) else if(S2 x0 == S2 ⟨#[70,65,76,83,69]⟩)=true then(Bp (S2 x0 == S2 ⟨#[84,82,85,69]⟩)).bind fun z4=>(fJ z4.1.1).bind fun z5=>if(!z5.1.1)=true then some (((0,0,⟨#[]⟩,()),false,()),()) else(ey z4.1.1).bind fun z6=>if(! (S2 z6.1.1 == S2 x0))=true then some (((0,0,⟨#[]⟩,()),false,()),()) else some ((z4.1.1,true,()),()) else if(S2 x0 == S2 ⟨#[84,82,85,69]⟩)=true then(Bp (S2 x0 == S2 ⟨#[84,82,85,69]⟩)).bind fun z7=>(fJ z7.1.1).bind fun z8=>if(!z8.1.1)=true then some (((0,0,⟨#[]⟩,()),false,()),()) else(ey z7.1.1).bind fun z9=>if(! (S2 z9.1.1 == S2 x0))=true then some (((0,0,⟨#[]⟩,()),false,()),()) else some ((z7.1.1,true,()),()) else(dk x0 ⟨#[35]⟩).bind fun z10=>if z10.1.1=true then fb x0 1 0 0 ⟨#[]⟩ 0 0 ⟨#[]⟩ else if(! (S2 x0 == S2 ⟨#[]⟩))=true then(fK x0 10 64).bind fun z11=>(yi z11.1.1).bind fun z12=>(fJ z12.1.1).bind fun z13=>if(!z13.1.1)=true then some (((0,0,⟨#[]⟩,()),false,()),()) else(ey z12.1.1).bind fun z14=>if(! (S2 z14.1.1 == S2 x0))=true then some (((0,0,⟨#[]⟩,()),false,()),()) else some ((z12.1.1,true,()),()) else(fJ (0,0,⟨#[]⟩,())).bind fun z15=>if(!z15.1.1)=true then some (((0,0,⟨#[]⟩,()),false,()),()) else(ey (0,0,⟨#[]⟩,())).bind fun z16=>if(! (S2 z16.1.1 == S2 x0))=true then some (((0,0,⟨#[]⟩,()),false,()),()) else some (((0,0,⟨#[]⟩,()),true,()),()):=az
theorem Ir {x0}:mY x0=(dJ x0 1 52).bind fun z1=>if(!z1.1.1)=true then some ((⟨#[]⟩,()),()) else if(decide (x0≤26))=true then some (((strOfNums ([(IntKind.u8.wrap (dz_ ea_ ((dz_ ea_ (65+x0)) - 1)))]:(List Int))),()),()) else some (((strOfNums ([(IntKind.u8.wrap (dz_ ea_ ((dz_ ea_ (65+(dz_ ea_ (Int.tdiv (dz_ ea_ (x0 - 1)) 26)))) - 1))),(IntKind.u8.wrap (dz_ ea_ (65+(cg_ (dz_ ea_ (x0 - 1)) 26))))]:(List Int))),()),()):=az
theorem It {x0}:zN x0=si x0 1:=az
theorem E2 {x0}:io x0=(qj x0.1).bind fun z1=>if(!z1.1.1)=true then some ((⟨#[]⟩,()),()) else if x0.2.1=true then(mY x0.1.1).bind fun z2=>cats ⟨#[36]⟩ z2.1.1 fun y1=>if x0.2.2.1=true then cats y1 ⟨#[36]⟩ fun y2=>(en x0.1.2.1).bind fun z3=>cats y2 z3.1.1 fun y3=>some ((y3,()),()) else(en x0.1.2.1).bind fun z4=>cats y1 z4.1.1 fun y4=>some ((y4,()),()) else(mY x0.1.1).bind fun z5=>cats ⟨#[]⟩ z5.1.1 fun y5=>if x0.2.2.1=true then cats y5 ⟨#[36]⟩ fun y6=>(en x0.1.2.1).bind fun z6=>cats y6 z6.1.1 fun y7=>some ((y7,()),()) else(en x0.1.2.1).bind fun z7=>cats y5 z7.1.1 fun y8=>some ((y8,()),()):=az
theorem E3 {x0}:fo x0=(cu x0 ⟨#[36]⟩).bind fun z1=>(fI z1.1.1 ⟨#[65,66,67,68,69,70,71,72,73,74,75,76,77,78,79,80,81,82,83,84,85,86,87,88,89,90]⟩).bind fun z2=>yQ z1.1.1 (dz_ ea_ ((U1 z1.1.1:Int) - (U1 z2.1.1:Int))) fun y1=>(zN y1).bind fun z3=>gJ z1.1.1 (dz_ ea_ ((U1 z1.1.1:Int) - (U1 z2.1.1:Int))) fun y2=>(cu y2 ⟨#[36]⟩).bind fun z4=>(fK z4.1.1 10 64).bind fun z5=>(qj (z3.1.1,z5.1.1,())).bind fun z6=>if(!z6.1.1)=true then some ((((0,0,()),false,false,()),false,()),()) else(io ((z3.1.1,z5.1.1,()),z1.1.2.1,z4.1.2.1,())).bind fun z7=>if(! (S2 z7.1.1 == S2 x0))=true then some ((((0,0,()),false,false,()),false,()),()) else some ((((z3.1.1,z5.1.1,()),z1.1.2.1,z4.1.2.1,()),true,()),()):=az
theorem KO {x0}:yj x0=inb ([⟨#[]⟩,⟨#[83,85,77]⟩,⟨#[77,73,78]⟩,⟨#[77,65,88]⟩,⟨#[67,79,85,78,84]⟩,⟨#[73,70]⟩,⟨#[65,78,68]⟩,⟨#[79,82]⟩,⟨#[78,79,84]⟩,⟨#[65,66,83]⟩,⟨#[76,69,78]⟩]:(List S0)) x0 (some (((V5 ([⟨#[]⟩,⟨#[83,85,77]⟩,⟨#[77,73,78]⟩,⟨#[77,65,88]⟩,⟨#[67,79,85,78,84]⟩,⟨#[73,70]⟩,⟨#[65,78,68]⟩,⟨#[79,82]⟩,⟨#[78,79,84]⟩,⟨#[65,66,83]⟩,⟨#[76,69,78]⟩]:(List S0)) (V1 x0) ⟨#[]⟩),()),())):=az
theorem wm {x0 x1 x2}:ip x0 x1 x2=(gP x0 x1 x2).bind fun z1=>(fo z1.1.1).bind fun z2=>if z2.1.2.1=true then(bC ⟨#[58]⟩ z1.2.1.1 z1.2.1.2.2.1 z1.2.1.2.1).bind fun z3=>if(!z3.1.1)=true then some (((0,0,(0,0,⟨#[]⟩,()),((0,0,()),false,false,()),((0,0,()),false,false,()),([]:(List Int)),()),false,()),((x0,z3.2.1.2.1,z3.2.1.2.2.1,()),())) else(gP z3.2.1.1 z3.2.1.2.2.1 z3.2.1.2.1).bind fun z4=>(fo z4.1.1).bind fun z5=>if z4.2.1.2.2.1=true then some (((3,0,(0,0,⟨#[]⟩,()),z2.1.1,z5.1.1,([]:(List Int)),()),true,()),((z4.2.1.1,z4.2.1.2.1,true,()),())) else some (((3,0,(0,0,⟨#[]⟩,()),z2.1.1,z5.1.1,([]:(List Int)),()),true,()),((z4.2.1.1,z4.2.1.2.1,(!z5.1.2.1),()),())) else some (((0,0,(0,0,⟨#[]⟩,()),((0,0,()),false,false,()),((0,0,()),false,false,()),([]:(List Int)),()),false,()),((x0,z1.2.1.2.1,z1.2.1.2.2.1,()),())):=az
theorem oM {x0 x1 x2 x3 x4}:bD x0 x1 x2 x3 x4=(iE x1 x2 x3 x4).bind fun z1=>dS x0 x1 z1.1.1 z1.2.1.1 z1.2.1.2.2.1 z1.2.1.2.1:=az
theorem rx {x0 x1 x2 x3 x4}:fL x0 x1 x2 x3 x4=if x3=true then ru x0 x1 x2 true x4 ([]:(List Int)) else(bC ⟨#[40]⟩ x2 x3 x4).bind fun z1=>cg x0 x1 z1.2.1.1 (!z1.1.1) ([]:(List Int)) z1.2.1.2.1:=az
theorem BD {x0 x1 x2 x3}:md x0 x1 x2 x3=(fB x1 x2 x3).bind fun z1=>(dk z1.2.1.1 ⟨#[34]⟩).bind fun z2=>if z2.1.1=true then(gN z1.2.1.1 z1.2.1.2.2.1 z1.2.1.2.1).bind fun z3=>some ((z3.1.1,()),(z3.2.1,())) else(dk z1.2.1.1 ⟨#[35]⟩).bind fun z4=>if z4.1.1=true then cR x0 1 z1.2.1.1 z1.2.1.2.2.1 z1.2.1.2.1 else(bC ⟨#[40]⟩ z1.2.1.1 z1.2.1.2.2.1 z1.2.1.2.1).bind fun z5=>if z5.1.1=true then(bD 1 (dz_ ea_ (x0+1)) z5.2.1.1 z5.2.1.2.2.1 z5.2.1.2.1).bind fun z6=>if z6.2.1.2.2.1=true then some ((z6.1.1,()),((z6.2.1.1,z6.2.1.2.1,true,()),())) else(bC ⟨#[41]⟩ z6.2.1.1 z6.2.1.2.2.1 z6.2.1.2.1).bind fun z7=>some ((z6.1.1,()),((z7.2.1.1,z7.2.1.2.1,(!z7.1.1),()),())) else(gP z5.2.1.1 z5.2.1.2.2.1 z5.2.1.2.1).bind fun z8=>(im z8.1.1).bind fun z9=>if z9.1.2.1=true then if(z9.1.1.1 == 1)=true then(bN z9.1.1 z8.2.1.1 z8.2.1.2.2.1 z8.2.1.2.1).bind fun z10=>some ((z10.1.1,()),(z10.2.1,())) else if(z9.1.1.1 == 3)=true then(bN z9.1.1 z8.2.1.1 z8.2.1.2.2.1 z8.2.1.2.1).bind fun z11=>some ((z11.1.1,()),(z11.2.1,())) else(fo z8.1.1).bind fun z12=>if z12.1.2.1=true then(aX (2,0,(0,0,⟨#[]⟩,()),z12.1.1,((0,0,()),false,false,()),([]:(List Int)),()) z8.2.1.1 z8.2.1.2.2.1 z8.2.1.2.1).bind fun z13=>some ((z13.1.1,()),(z13.2.1,())) else c7 x0 z8.1.1 1 z8.2.1.1 z8.2.1.2.2.1 z8.2.1.2.1 else(fo z8.1.1).bind fun z14=>if z14.1.2.1=true then(aX (2,0,(0,0,⟨#[]⟩,()),z14.1.1,((0,0,()),false,false,()),([]:(List Int)),()) z8.2.1.1 z8.2.1.2.2.1 z8.2.1.2.1).bind fun z15=>some ((z15.1.1,()),(z15.2.1,())) else c7 x0 z8.1.1 1 z8.2.1.1 z8.2.1.2.2.1 z8.2.1.2.1:=az
theorem KP {x0}:tq x0=inb ([⟨#[]⟩,⟨#[43]⟩,⟨#[45]⟩,⟨#[42]⟩,⟨#[47]⟩,⟨#[38]⟩,⟨#[61]⟩,⟨#[60,62]⟩,⟨#[60]⟩,⟨#[60,61]⟩,⟨#[62]⟩,⟨#[62,61]⟩]:(List S0)) x0 (some (((V5 ([⟨#[]⟩,⟨#[43]⟩,⟨#[45]⟩,⟨#[42]⟩,⟨#[47]⟩,⟨#[38]⟩,⟨#[61]⟩,⟨#[60,62]⟩,⟨#[60]⟩,⟨#[60,61]⟩,⟨#[62]⟩,⟨#[62,61]⟩]:(List S0)) (V1 x0) ⟨#[]⟩),()),())):=az
theorem MG {x0}:xc x0=if(x0 == 3)=true then if(x0 == 3)=true then some ((4,()),()) else if(x0 == 1)=true then if(x0 == 1)=true then some ((3,()),()) else if(x0 == 5)=true then some ((2,()),()) else some ((1,()),()) else if(x0 == 2)=true then some ((3,()),()) else if(x0 == 5)=true then some ((2,()),()) else some ((1,()),()) else if(x0 == 4)=true then some ((4,()),()) else if(x0 == 1)=true then if(x0 == 1)=true then some ((3,()),()) else if(x0 == 5)=true then some ((2,()),()) else some ((1,()),()) else if(x0 == 2)=true then some ((3,()),()) else if(x0 == 5)=true then some ((2,()),()) else some ((1,()),()):=az
theorem CO {x0}:r8 x0=if(x0.1 == 2)=true then some (((x0.2.2.2.1.1,x0.2.2.2.1.1,()),()),()) else some (((x0.2.2.2.1.1,x0.2.2.2.2.1.1,()),()),()):=az
theorem KQ {x0}:yk x0=(qj x0.1).bind fun z1=>if z1.1.1=true then(qj x0.2.1).bind fun z2=>if z2.1.1=true then if(decide (x0.1.1≤x0.2.1.1))=true then some (((decide (x0.1.2.1≤x0.2.1.2.1)),()),()) else some ((false,()),()) else some ((false,()),()) else some ((false,()),()):=az
theorem xp {x0}:dp x0=if(x0.1 != 2)=true then if(x0.1 != 3)=true then some ((true,()),()) else(r8 x0).bind fun z1=>(yk z1.1.1).bind fun z2=>some ((z2.1.1,()),()) else(r8 x0).bind fun z3=>(yk z3.1.1).bind fun z4=>some ((z4.1.1,()),()):=az
end Go.Proofs.YtfffplonjaigkaaGreatDoor.Abs
