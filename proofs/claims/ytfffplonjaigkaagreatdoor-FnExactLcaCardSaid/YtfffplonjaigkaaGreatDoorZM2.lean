/- A row's frame that keeps the world's shape beside what is laid; the cell of a variable of the library's that is a number. -/
import Derived.Handed
import Derived.HandedShaped
import Derived.LaidLaws
import Derived.Stop.LaidErr
import Derived.Shelf.LaysM
import Derived.Test.YtfffplonjaigkaaGreatDoorZM1
import Derived.SevenTiedAt
import Derived.Test.YtfffplonjaigkaaGreatDoorZA3
import Derived.Test.YtfffplonjaigkaaGreatDoorZQAD
set_option linter.unusedVariables false
open Bool renaming and_eq_true→M7,eq_false_iff→W9
open ByteArray renaming size→N6,toList→M1
open Go.IntKind renaming i64→ar_,wrap→aq_
open Int renaming toNat_natCast→V5,toNat→P9
open List renaming any_eq_true→Y2,getD→R0,getElem?_eq_some_iff→N7,length→N0
open Option renaming bind_some→M0
open Option.some renaming inj→R5
open _root_ renaming ByteArray→L9,if_neg→M2,if_pos→M5
namespace Go.Proofs.YtfffplonjaigkaaGreatDoor.Abs
open Go Go.RowKit Go.ChangeShapes
theorem DR {W:World} (h:W.ShapedOpen Tryz.prog) : ∃ m,W.cell? ⟨0,0,none⟩=some (.int .i64 m):=Tryz.layCut.s1_3 W h
theorem l5 {H:Type} {enc:TypeId×Value→H} {a:Assume} {C:Checked} {os:Os} {f:FuncId} {fn:Func} {s:ChangeSpec} {conds:List PathCond} {apart fresh handsOn again:Bool} {X:World→Array Value→Prop}
  (hX : ∀(w w':World) (args:Array Value),w.heap=w'.heap→X w args→X w' args)
  (own:ownKnob C.prog.godebug=none) (started:os.Started) (noInit:C.prog.inits.idxOf? f=none) (hfn:C.prog.funcs[f]? = some fn)
  (witness : ∃(w:World) (tape:Tape) (i:Input),w.os=os∧(w.forCall tape i).Shaped C.prog∧i.vars=[]∧Input.okWide C.prog (w.forCall tape i) .any w.heap.size f i ∧
   ((s.pre enc C.prog fn conds apart (w.forCall tape i).memory i.args∧X (w.forCall tape i).memory i.args)∧sizedMet enc C.prog fn (OpenSpec.ofChange s) apart (w.forCall tape i).memory i.args)∧a.holds C.prog (lone (Frame.enter C.prog f i.args .normal) [] (w.forCall tape i)))
  (contract : ∀(W:World) (base:Nat) (args:Array Value) (ds gs:List (DataW H)) (before:List MemPlace),
   (∀(j:Nat) t v,fn.params[j]? = some t→args[j]? = some v→Value.okWide C.prog W .any base t v) →
   DataW.Whole enc C.prog fn.params.toList s.vars apart W args.toList ds gs before →
   conds.all (PathCond.test C.prog ⟨fn.params.toList,ds,s.plain.varTypes C.prog,gs⟩)=true →
   (DataW.weightsEach C.prog (fn.params.toList++s.plain.varTypes C.prog) (ds++gs)).all (· ≤ reachBytes)=true→X W args→W.ShapedOpen C.prog →
   a.holds C.prog (lone (Frame.enter C.prog f args .normal) [] W) →
   Calls C.prog f args W fun e W' => ∃ v,e = .returned v∧s.post enc C.prog fn apart fresh handsOn again W args v W') :
  ReturnsInHanded a C os f .any (fun w args=>(s.pre enc C.prog fn conds apart w args∧X w args)∧sizedMet enc C.prog fn (OpenSpec.ofChange s) apart w args) (s.post enc C.prog fn apart fresh handsOn again):=by
 refine returnsInHanded_of_calls own started noInit witness ?_
 intro w tape i _ hsh _ hok hpre hholds
 obtain⟨_,_,_,fn',hfn',_,_,_,_,hval⟩:=hok
 have e:fn'=fn:=R5 (hfn'.symm.trans hfn)
 subst e
 obtain⟨⟨⟨ds,gs,before,hw,hc⟩,hx⟩,hz⟩:=hpre
 have hw':=DataW.Whole.of_heap (w':=w.forCall tape i) (by rfl) hw
 refine(contract (w.forCall tape i) w.heap.size i.args ds gs before hval hw' hc (hz.weights hw) (hX _ _ _ (by rfl) hx) hsh hholds).mono fun e W' ⟨v,he,hp⟩ => ?_
 subst he
 exact ChangeSpec.post_blind hp
end Go.Proofs.YtfffplonjaigkaaGreatDoor.Abs
namespace Go.Proofs.YtfffplonjaigkaaGreatDoor.Abs
open Go
theorem Hw {P:Program} (h:P.funcs.any Func.goes=false) (c:OpenClaim):false=c.goesBy P:=by
 have h1 : ∀ g:FuncId,(P.funcs[g]?).any Func.goes=false:=by
  intro g
  cases hg:P.funcs[g]? with
  | none=>rfl
  | some fn =>
   rw[Option.any_some,W9]
   intro hh
   have h2:P.funcs.any Func.goes=true:=by
    rw[Array.any_eq_true]
    obtain⟨hl,e⟩:=Array.getElem?_eq_some_iff.1 hg
    exact⟨g,hl,by rw[e]; exact hh⟩
   rw[h] at h2
   cases h2
 have h2 : ∀ f:FuncId,P.goes f=false:=by
  intro f
  unfold Program.goes
  rw[h,Bool.and_false,Bool.or_false,W9]
  intro hh
  obtain⟨g,_,hg⟩:=Y2.1 hh
  rw[h1 g] at hg
  cases hg
 have h3 : ∀ s:String,P.goesFrom s=false:=by
  intro s
  unfold Program.goesFrom
  cases P.funcNamed s with
  | none=>rfl
  | some f=>exact h2 f
 have h4:P.inits.toList.any P.goes=false:=by
  rw[W9]
  intro hh
  obtain⟨g,_,hg⟩:=Y2.1 hh
  rw[h2 g] at hg
  cases hg
 unfold OpenClaim.goesBy Program.goesAt
 rw[h3,Bool.false_or,h4]
 cases c.start <;> rfl
end Go.Proofs.YtfffplonjaigkaaGreatDoor.Abs
set_option linter.unusedSimpArgs false
set_option linter.unusedSectionVars false
namespace Go.Proofs.YtfffplonjaigkaaGreatDoor.Abs
open Go
section
variable {α β:Type}
theorem bG {xs pre ys:List α} {y d:α} {f:α→Option β} (h:xs=pre++y :: ys):ix xs (pre.length:Int) d f=f y:=by
 subst h
 have h1:((pre.length:Nat):Int) < ((pre++y :: ys).length:Int):=BN
 unfold ix
 rw[M5 (nn _),M5 h1,pQ]
theorem cO {xs:List α} {i:Int} {y d:α} {f:α→Option β} (h0:0≤i) (h:xs[i.toNat]? = some y):ix xs i d f=f y:=by
 have h2:=(N7.1 h)
 obtain⟨h3,h4⟩:=h2
 have h1:i < (xs.length:Int):=by omega
 unfold ix
 rw[M5 h0,M5 h1]
 congr 1
 simp[List.getD_eq_getElem?_getD,h]
theorem iH {xs:List α} {i:Int} {k:Option β} (h0:0≤i) (h1:i < (xs.length:Int)):fq xs i k=k:=by
 unfold fq
 rw[M5 h0,M5 h1]
theorem iI {xs pre ys:List α} {y:α} {k:Option β} (h:xs=pre++y :: ys):fq xs (pre.length:Int) k=k:=by
 subst h
 exact iH (nn _) BN
theorem K1 {s:L9} {i:Int} {f:Int→Option β} (h0:0≤i) (h1:i < (s.size:Int)):cM s i f=f (bt s i):=by
 unfold cM
 rw[M5 h0,M5 h1]
theorem xb {n b:Nat} {d:α} {f:List α→Option β} (h:n*b≤140737488355328):EQ (n:Int) b d f=f (List.replicate n d):=by
 unfold EQ
 rw[M5 (nn _)]
 simp only[V5]
 rw[M5 h]
theorem kV {a b:L9} {f:L9→Option β} (h:a.size+b.size≤9223372036854775807):aZ a b f=f (a++b):=M5 h
theorem dv {a b:List α} {n:Nat} {f:List α→Option β} (h:(a.length+b.length)*n≤140737488355328):mf a b n f=f (a++b):=M5 h
theorem K2 {s:L9} {h:Int} {f:L9→Option β} (h0:0≤h) (h1:h≤(s.size:Int)):uS s h f=f (s.extract 0 h.toNat):=by
 unfold uS
 rw[M5 h0,M5 h1]
theorem K3 {s:L9} {l:Int} {f:L9→Option β} (h0:0≤l) (h1:l≤(s.size:Int)):fC s l f=f (s.extract l.toNat s.size):=by
 unfold fC
 rw[M5 h0,M5 h1]
theorem K4 {s:L9} {l h:Int} {f:L9→Option β} (h0:0≤l) (h1:l≤h) (h2:h≤(s.size:Int)):oz s l h f=f (s.extract l.toNat h.toNat):=by
 unfold oz
 rw[M5 (by omega),M5 h2,M5 h0,M5 h1]
theorem bQ {xs pre ys:List α} {y:α} (h:xs=pre++y :: ys):((pre.length:Nat):Int) < (xs.length:Int):=by rw[h]; exact BN
theorem df {xs pre:List α} (h:xs=pre++[]) : ¬((pre.length:Nat):Int) < (xs.length:Int):=by rw[h,List.append_nil]; exact Int.lt_irrefl _
theorem aV {xs pre ys:List α} {y:α} (h:xs=pre++y :: ys) (hl:xs.length≤9223372036854775807):IntKind.i64.wrap ((pre.length:Int)+1)=((pre++[y]).length:Int):=by
 have:=bQ h
 rw[wr (by omega) (by omega),Jb]
theorem bh {xs pre ys:List α} {y:α} (h:xs=pre++y :: ys):xs=(pre++[y])++ys:=by rw[h]; simp
end
def jz (s:L9):List Int:=s.data.toList.map fun b=>(b.toNat:Int)
theorem qf (s:L9):(jz s).length=s.size:=by
 unfold jz
 rw[List.length_map,Array.length_toList]
 rfl
theorem K5 {s:L9} {pre ys:List Int} {y:Int} (h:jz s=pre++y :: ys):bt s (pre.length:Int)=y:=by
 have hl:pre.length < s.size:=by rw[←qf,h]; simp
 unfold bt
 simp only[V5,hl,dite_true]
 have h1:(jz s)[pre.length]? = some y:=by rw[h]; simp
 unfold jz at h1
 rw[List.getElem?_map,Option.map_eq_some_iff] at h1
 obtain⟨b,hb,rfl⟩:=h1
 rw[N7] at hb
 obtain⟨_,hb⟩:=hb
 rw[←hb]
 simp[ByteArray.getElem_eq_getElem_data]
@[simp] theorem LH (a b:L9):jz (a++b)=jz a++jz b:=by simp[jz]
@[simp] theorem size_append (a b:L9):(a++b).size=a.size+b.size:=ByteArray.size_append
theorem tu {β:Type} {s:L9} {pre ys:List Int} {y:Int} {f:Int→Option β} (h:jz s=pre++y :: ys):cM s (pre.length:Int) f=f y:=by
 have hl:((pre.length:Nat):Int) < (s.size:Int):=by rw[←qf]; exact bQ h
 rw[K1 (nn _) hl,K5 h]
theorem Hx {s:L9} {pre ys:List Int} {y:Int} (h:jz s=pre++y :: ys):((pre.length:Nat):Int) < (s.size:Int):=by rw[←qf]; exact bQ h
theorem EU {s:L9} {pre:List Int} (h:jz s=pre++[]) : ¬((pre.length:Nat):Int) < (s.size:Int):=by rw[←qf]; exact df h
theorem Cl {s:L9} {pre ys:List Int} {y:Int} (h:jz s=pre++y :: ys) (hl:s.size≤9223372036854775807):IntKind.i64.wrap ((pre.length:Int)+1)=((pre++[y]).length:Int):=aV h (by rw[qf]; exact hl)
@[simp] theorem L5 {x y:L9}:(x == y)=true↔x=y:=by
 cases x; cases y
 constructor
 ·intro h
  congr 1
  exact eq_of_beq h
 ·intro h
  cases h
  exact beq_self_eq_true (α:=Array UInt8) _
theorem qg : ∀ {t:Ty} {x y:t.den},cq t=true→(bZ t x y=true↔x=y)
 | .int _,x,y,_=>by simp[bZ]
 | .bool,x,y,_=>by simp[bZ]
 | .str,x,y,_=>by
  exact L5
 | .unit,_,_,_=>by simp[bZ]
 | .pair a b,x,y,h=>by
  simp only[cq,M7] at h
  simp only[bZ,M7,qg h.1,qg h.2]
  exact⟨fun⟨h1,h2⟩=>Prod.ext h1 h2,fun h=>by rw[h]; exact⟨rfl,rfl⟩⟩
 | .agg t,x,y,h=>by
  simp only[cq] at h
  simp only[bZ,qg h]
 | .slice _ _,_,_,h=>by cases h
def bj (left:Int) (n:Nat):Int:=if(n:Int)≤left then left - n else -1
theorem fI {left:Int} {a b:Nat} (h : ¬bj left a < 0):bj (bj left a) b=bj left (a+b):=by
 unfold bj at h ⊢
 by_cases h1:(a:Int)≤left
 ·rw[M5 h1] at h ⊢
  by_cases h2:(b:Int)≤left - a
  ·rw[M5 h2,M5 (by omega)]
   omega
  ·rw[M2 h2,M2 (by omega)]
 ·rw[M2 h1] at h
  omega
theorem eH {left:Int} {a b:Nat} (h:bj left a < 0):bj left (a+b) = -1:=by
 unfold bj at h ⊢
 split at h
 ·omega
 ·rw[M2 (by omega)]
theorem gM {left:Int} {n:Nat} (h:0≤left):bj left n≤left:=by
 unfold bj
 split <;> omega
theorem K6 {left:Int} {n:Nat} : ¬bj left n < 0→(n:Int)≤left∧bj left n=left - n:=by
 unfold bj
 split
 ·intro _
  constructor <;> first | assumption | rfl
 ·intro h
  omega
theorem mQ {left:Int} {n:Nat} (h0:0≤left) (h1:left≤9223372036854775807) (hn:n≤9223372036854775807):(aq_ ar_ (left - (n:Int)) < 0↔bj left n < 0)∧(¬bj left n < 0→IntKind.i64.wrap (left - (n:Int))=bj left n):=by
 rw[wr (by omega) (by omega)]
 unfold bj
 split <;> constructor <;> first | omega | (intro _; rfl)
theorem Jj {left:Int} (h:0≤left):bj left 0=left:=by
 unfold bj
 rw[M5 (by omega)]
 omega
def fe {α:Type} (f:α→Nat):List α→Nat
 | []=>0
 | x :: l=>f x+fe f l
theorem uo {α:Type} {f:α→Nat} {l:List α} {x:α} (h:x∈l):f x≤fe f l:=by
 induction l with
 | nil=>cases h
 | cons y l ih =>
  simp only[fe]
  rcases List.mem_cons.1 h with rfl | h
  ·omega
  ·have:=ih h
   omega
theorem av {α:Type} {p:Prop} [Decidable p] {a b:α} (h:p):(if decide p=true then a else b)=a:=M5 (decide_eq_true h)
theorem aq {α:Type} {p:Prop} [Decidable p] {a b:α} (h : ¬p):(if decide p=true then a else b)=b:=M2 (by simpa using h)
theorem Kg {w left:Int} {n rest:Nat} {K:Int→Option ((Int×Unit)×Unit)} (hw:bj left n=w) (h0:0≤left) (h1:left≤9223372036854775807) (hK : ∀ l,0≤l→l≤9223372036854775807→K l=some ((bj l rest,()),())) :
  (if decide (w < 0)=true then some ((-1,()),()) else K w)=some ((bj left (n+rest),()),()):=by
 subst hw
 by_cases hn:bj left n < 0
 ·rw[av hn,eH hn]
 ·have:=gM (n:=n) h0
  rw[aq hn,hK _ (by omega) (by omega),fI hn]
theorem qh (l:Int) (h0:0≤l) (h1:l≤9223372036854775807):some ((l,()),())=some ((bj l 0,()),()):=by rw[Jj h0]
section
variable {α:Type}
theorem vS {f:α→Nat} {xs:List α} {P:Int→Int→Option ((Int×Unit)×Unit)} {c:α→Int→Option ((Int×Unit)×Unit)} {d:α}
  (hP : ∀ l i,P l i=if decide (i < (xs.length:Int))=true then ix xs i d fun y=>(c y l).bind fun z=>if decide (z.1.1 < 0)=true then some ((-1,()),()) else P z.1.1 (aq_ ar_ (i+1)) else some ((l,()),()))
  (hc : ∀ y∈xs,∀ l,0≤l→l≤9223372036854775807→c y l=some ((bj l (f y),()),())) (hl:(xs.length:Int)≤9223372036854775807) : ∀ l,0≤l→l≤9223372036854775807→P l 0=some ((bj l (fe f xs),()),()):=by
 have go : ∀(ys pre:List α),xs=pre++ys → ∀ l,0≤l→l≤9223372036854775807→P l (pre.length:Int)=some ((bj l (fe f ys),()),()):=by
  intro ys
  induction ys with
  | nil =>
   intro pre he l h0 h1
   rw[hP,aq (df he)]
   exact qh l h0 h1
  | cons y ys ih =>
   intro pre he l h0 h1
   rw[hP,av (bQ he),bG he,hc y (by rw[he]; simp) l h0 h1,M0]
   show(if decide (bj l (f y) < 0)=true then _ else P (bj l (f y)) (aq_ ar_ (↑pre.length+1)))=_
   generalize hw:bj l (f y)=w
   refine Kg (K:=fun w=>P w (aq_ ar_ (↑pre.length+1))) hw h0 h1 fun l' h0' h1' => ?_
   show P l' (aq_ ar_ (↑pre.length+1))=_
   rw[aV he (by omega)]
   exact ih _ (bh he) l' h0' h1'
 exact go xs [] rfl
theorem rq {xs:List α} {P:Int→List α→Option ((List α×Unit)×Unit)} {c:α→Option ((α×Unit)×Unit)} {d:α}
  (hP : ∀ i zs,P i zs=if decide (i < (xs.length:Int))=true then ix xs i d fun y=>(c y).bind fun z=>fq zs i (P (aq_ ar_ (i+1)) (zs.set i.toNat z.1.1)) else some ((zs,()),()))
  (hc : ∀ y∈xs,c y=some ((y,()),())) (hl:(xs.length:Int)≤9223372036854775807) : ∀ zs:List α,zs.length=xs.length→P 0 zs=some ((xs,()),()):=by
 have go : ∀(ys pre zs:List α),xs=pre++ys→zs.length=ys.length→P (pre.length:Int) (pre++zs)=some ((xs,()),()):=by
  intro ys
  induction ys with
  | nil =>
   intro pre zs he hz
   rw[hP,aq (df he),List.eq_nil_of_length_eq_zero hz,he]
  | cons y ys ih =>
   intro pre zs he hz
   cases zs with
   | nil=>cases hz
   | cons z zs =>
    rw[hP,av (bQ he),bG he,hc y (by rw[he]; simp),M0,iI rfl,KY,aV he (by omega),show pre++y :: zs=(pre++[y])++zs by simp]
    exact ih _ zs (bh he) (by simpa using hz)
 intro zs hz
 exact go xs [] zs rfl hz
theorem Hy {xs:List α} {P:Int→List α→Option ((List α×Unit)×Unit)} {d:α}
  (hP : ∀ i zs,P i zs=if decide (i < (xs.length:Int))=true then ix xs i d fun y=>fq zs i (P (aq_ ar_ (i+1)) (zs.set i.toNat y)) else some ((zs,()),()))
  (hl:(xs.length:Int)≤9223372036854775807) : ∀ zs:List α,zs.length=xs.length→P 0 zs=some ((xs,()),()) :=
 rq (c:=fun y=>some ((y,()),())) (fun i zs=>by rw[hP]; rfl) (fun _ _=>rfl) hl
theorem rr {xs:List α} {P:Int→Option ((Bool×Unit)×Unit)} {B:α→α→Option ((Bool×Unit)×Unit)→Option ((Bool×Unit)×Unit)} {d d':α}
  (hP : ∀ i,P i=if decide (i < (xs.length:Int))=true then ix xs i d fun y=>ix xs i d' fun y'=>B y y' (P (aq_ ar_ (i+1))) else some ((true,()),()))
  (hB : ∀ y∈xs,∀ k,B y y k=k) (hl:(xs.length:Int)≤9223372036854775807):P 0=some ((true,()),()):=by
 have go : ∀(ys pre:List α),xs=pre++ys→P (pre.length:Int)=some ((true,()),()):=by
  intro ys
  induction ys with
  | nil =>
   intro pre he
   rw[hP,aq (df he)]
  | cons y ys ih =>
   intro pre he
   rw[hP,av (bQ he),bG he,bG he,hB y (by rw[he]; simp),aV he (by omega)]
   exact ih _ (bh he)
 exact go xs [] rfl
end
end Go.Proofs.YtfffplonjaigkaaGreatDoor.Abs
set_option maxRecDepth 100000
namespace Go.Proofs.YtfffplonjaigkaaGreatDoor.Abs
open Go Go.Proofs.YtfffplonjaigkaaGreatDoor
theorem Cm {x0 x1}:tf x0 x1=if(decide ((aq_ ar_ (x1 - (N0 x0:Int))) < 0))=true then some (((-1),()),()) else some (((aq_ ar_ (x1 - (N0 x0:Int))),()),()):=az
theorem FQ {x0 x1}:ug x0 x1=if(decide ((aq_ ar_ (x1 - (N6 x0.2.1:Int))) < 0))=true then some (((-1),()),()) else some (((aq_ ar_ (x1 - (N6 x0.2.1:Int))),()),()):=az
theorem DS {x0 x1}:vF x0 x1=if(decide ((aq_ ar_ (x1 - (N0 x0:Int))) < 0))=true then some (((-1),()),()) else pf x0 (aq_ ar_ (x1 - (N0 x0:Int))) 0:=az
theorem Ax {x0 x1}:mq x0 x1=(tf x0.2.1 x1).bind fun z1=>if(decide (z1.1.1 < 0))=true then some (((-1),()),()) else(vF x0.2.2.1 z1.1.1).bind fun z2=>if(decide (z2.1.1 < 0))=true then some (((-1),()),()) else some ((z2.1.1,()),()):=az
theorem yv {x0 x1}:pb x0 x1=if(decide ((aq_ ar_ (x1 - (N0 x0:Int))) < 0))=true then some (((-1),()),()) else kQ x0 (aq_ ar_ (x1 - (N0 x0:Int))) 0:=az
theorem Cn {x0 x1}:oC x0 x1=if(decide ((aq_ ar_ (x1 - (N6 x0.1:Int))) < 0))=true then some (((-1),()),()) else some (((aq_ ar_ (x1 - (N6 x0.1:Int))),()),()):=az
theorem Ay {x0 x1}:rd x0 x1=if(decide ((aq_ ar_ (x1 - (N0 x0:Int))) < 0))=true then some (((-1),()),()) else lW x0 (aq_ ar_ (x1 - (N0 x0:Int))) 0:=az
theorem Hz {x0 x1}:B4 x0 x1=(pb x0.2.1 x1).bind fun z1=>if(decide (z1.1.1 < 0))=true then some (((-1),()),()) else(rd x0.2.2.1 z1.1.1).bind fun z2=>if(decide (z2.1.1 < 0))=true then some (((-1),()),()) else some ((z2.1.1,()),()):=az
theorem Co {x0}:tg x0=EQ (N0 x0:Int) 8 0 fun y1=>nM x0 0 y1:=az
theorem HA {x0}:B5 x0=some ((x0,()),()):=az
theorem FR {x0}:uh x0=(B5 x0.1).bind fun z1=>some (((z1.1.1,x0.2.1,()),()),()):=az
theorem DT {x0}:vG x0=EQ (N0 x0:Int) 32 (bq.dflt) fun y1=>pg x0 0 y1:=az
theorem Az {x0}:mr x0=(tg x0.2.1).bind fun z1=>(vG x0.2.2.1).bind fun z2=>some (((x0.1,z1.1.1,z2.1.1,()),()),()):=az
theorem yw {x0}:pc x0=EQ (N0 x0:Int) 56 (aC.dflt) fun y1=>kR x0 0 y1:=az
theorem Cp {x0}:oD x0=some ((x0,()),()):=az
theorem AA {x0}:re x0=EQ (N0 x0:Int) 24 (aN.dflt) fun y1=>lX x0 0 y1:=az
theorem HC {x0}:th x0=(pc x0.2.1).bind fun z1=>(re x0.2.2.1).bind fun z2=>some (((x0.1,z1.1.1,z2.1.1,()),()),()):=az
theorem Jk {x0 x1 x2}:iT x0 x1 x2=if(decide (x0≥x1))=true then some (((decide (x0≤x2)),()),()) else some ((false,()),()):=az
theorem DU {x0}:ny x0=lp x0 0:=az
theorem xc {x0 x1 x2 x3}:fD x0 x1 x2 x3=gq x0 x1 x2 x3:=az
theorem DV {x0 x1 x2 x3 x4}:cy x0 x1 x2 x3 x4=(fD x1 x2 x3 x4).bind fun z1=>if z1.2.1.2.2.1=true then some ((false,()),(z1.2.1,())) else if(decide ((aq_ ar_ (z1.2.1.2.1+(N6 x0:Int))) > (N6 z1.2.1.1:Int)))=true then some ((false,()),(z1.2.1,())) else oz z1.2.1.1 z1.2.1.2.1 (aq_ ar_ (z1.2.1.2.1+(N6 x0:Int))) fun y1=>if(! (M1 y1 == M1 x0))=true then some ((false,()),(z1.2.1,())) else some ((true,()),((z1.2.1.1,(aq_ ar_ (z1.2.1.2.1+(N6 x0:Int))),z1.2.1.2.2.1,z1.2.1.2.2.2.1,()),())):=az
theorem tv {x0 x1 x2 x3 x4}:da x0 x1 x2 x3 x4=if x3=true then some ((0,()),((x1,x2,x3,x4,()),())) else if(x0 == 5)=true then(oF x1 x2 x3 x4).bind fun z1=>some ((z1.1.1,()),(z1.2.1,())) else(da (aq_ ar_ (x0+1)) x1 x2 x3 x4).bind fun z2=>cj x0 z2.1.1 z2.2.1.1 z2.2.1.2.1 z2.2.1.2.2.1 z2.2.1.2.2.2.1:=az
theorem DW {x0}:eC x0=if(x0.1 == 0)=true then if(x0.2.1 == 0)=true then some (((M1 x0.2.2.1 == M1 ⟨#[]⟩),()),()) else some ((false,()),()) else if(x0.1 == 1)=true then(iT x0.2.1 (-1000000000000000) 1000000000000000).bind fun z1=>if z1.1.1=true then some (((M1 x0.2.2.1 == M1 ⟨#[]⟩),()),()) else some ((false,()),()) else if(x0.1 == 2)=true then if(x0.2.1 == 0)=true then(ny x0.2.2.1).bind fun z2=>some ((z2.1.1,()),()) else some ((false,()),()) else if(x0.1 == 3)=true then(iT x0.2.1 0 1).bind fun z3=>if z3.1.1=true then some (((M1 x0.2.2.1 == M1 ⟨#[]⟩),()),()) else some ((false,()),()) else if(x0.1 == 4)=true then(iT x0.2.1 1 5).bind fun z4=>if z4.1.1=true then some (((M1 x0.2.2.1 == M1 ⟨#[]⟩),()),()) else some ((false,()),()) else some ((false,()),()):=az
theorem HD {x0}:db x0=(iT x0.1 1 52).bind fun z1=>if z1.1.1=true then(iT x0.2.1 1 99).bind fun z2=>some ((z2.1.1,()),()) else some ((false,()),()):=az
theorem FS {x0}:yl x0=(db x0.1).bind fun z1=>if z1.1.1=true then(db x0.2.1).bind fun z2=>if z2.1.1=true then if(decide (x0.1.1≤x0.2.1.1))=true then some (((decide (x0.1.2.1≤x0.2.1.2.1)),()),()) else some ((false,()),()) else some ((false,()),()) else some ((false,()),()):=az
theorem FT {x0 x1}:ym x0 x1=if(x0 == 1)=true then if(x0 == 1)=true then if(decide (x1≥1))=true then some (((decide (x1≤10)),()),()) else some ((false,()),()) else if(x0 == 5)=true then if(x1 == 2)=true then some ((true,()),()) else some (((x1 == 3),()),()) else if(x0 == 8)=true then if(x0 == 8)=true then some (((x1 == 1),()),()) else some ((false,()),()) else if(x0 == 9)=true then if(x0 == 9)=true then some (((x1 == 1),()),()) else some ((false,()),()) else if(x0 == 10)=true then some (((x1 == 1),()),()) else some ((false,()),()) else if(x0 == 2)=true then if(x0 == 2)=true then if(decide (x1≥1))=true then some (((decide (x1≤10)),()),()) else some ((false,()),()) else if(x0 == 5)=true then if(x1 == 2)=true then some ((true,()),()) else some (((x1 == 3),()),()) else if(x0 == 8)=true then if(x0 == 8)=true then some (((x1 == 1),()),()) else some ((false,()),()) else if(x0 == 9)=true then if(x0 == 9)=true then some (((x1 == 1),()),()) else some ((false,()),()) else if(x0 == 10)=true then some (((x1 == 1),()),()) else some ((false,()),()) else if(x0 == 3)=true then if(x0 == 3)=true then if(decide (x1≥1))=true then some (((decide (x1≤10)),()),()) else some ((false,()),()) else if(x0 == 5)=true then if(x1 == 2)=true then some ((true,()),()) else some (((x1 == 3),()),()) else if(x0 == 8)=true then if(x0 == 8)=true then some (((x1 == 1),()),()) else some ((false,()),()) else if(x0 == 9)=true then if(x0 == 9)=true then some (((x1 == 1),()),()) else some ((false,()),()) else if(x0 == 10)=true then some (((x1 == 1),()),()) else some ((false,()),()) else if(x0 == 4)=true then if(x0 == 4)=true then if(decide (x1≥1))=true then some (((decide (x1≤10)),()),()) else some ((false,()),()) else if(x0 == 5)=true then if(x1 == 2)=true then some ((true,()),()) else some (((x1 == 3),()),()) else if(x0 == 8)=true then if(x0 == 8)=true then some (((x1 == 1),()),()) else some ((false,()),()) else if(x0 == 9)=true then if(x0 == 9)=true then some (((x1 == 1),()),()) else some ((false,()),()) else if(x0 == 10)=true then some (((x1 == 1),()),()) else some ((false,()),()) else if(x0 == 6)=true then if(x0 == 6)=true then if(decide (x1≥1))=true then some (((decide (x1≤10)),()),()) else some ((false,()),()) else if(x0 == 5)=true then if(x1 == 2)=true then some ((true,()),()) else some (((x1 == 3),()),()) else if(x0 == 8)=true then if(x0 == 8)=true then some (((x1 == 1),()),()) else some ((false,()),()) else if(x0 == 9)=true then if(x0 == 9)=true then some (((x1 == 1),()),()) else some ((false,()),()) else if(x0 == 10)=true then some (((x1 == 1),()),()) else some ((false,()),()) else if(x0 == 7)=true then if(decide (x1≥1))=true then some (((decide (x1≤10)),()),()) else some ((false,()),()) else if(x0 == 5)=true then if(x1 == 2)=true then some ((true,()),()) else some (((x1 == 3),()),()) else if(x0 == 8)=true then if(x0 == 8)=true then some (((x1 == 1),()),()) else some ((false,()),()) else if(x0 == 9)=true then if(x0 == 9)=true then some (((x1 == 1),()),()) else some ((false,()),()) else if(x0 == 10)=true then some (((x1 == 1),()),()) else some ((false,()),()):=az
theorem Cq {x0}:oE x0=if(x0.1 == 1)=true then if(x0.2.1 == 0)=true then if(bZ aX x0.2.2.2.1 ((0,0,()),false,false,()))=true then if(bZ aX x0.2.2.2.2.1 ((0,0,()),false,false,()))=true then if((N0 x0.2.2.2.2.2.1:Int) == 0)=true then(eC x0.2.2.1).bind fun z1=>if z1.1.1=true then if(x0.2.2.1.1 != 0)=true then if(x0.2.2.1.1 != 1)=true then some ((true,()),()) else some (((decide (x0.2.2.1.2.1≥0)),()),()) else some ((false,()),()) else some ((false,()),()) else some ((false,()),()) else some ((false,()),()) else some ((false,()),()) else some ((false,()),()) else if(x0.1 == 2)=true then if(x0.2.1 == 0)=true then if(bZ aU x0.2.2.1 (0,0,⟨#[]⟩,()))=true then if(bZ aX x0.2.2.2.2.1 ((0,0,()),false,false,()))=true then if((N0 x0.2.2.2.2.2.1:Int) == 0)=true then(db x0.2.2.2.1.1).bind fun z2=>some ((z2.1.1,()),()) else some ((false,()),()) else some ((false,()),()) else some ((false,()),()) else some ((false,()),()) else if(x0.1 == 3)=true then if(x0.2.1 == 0)=true then if(bZ aU x0.2.2.1 (0,0,⟨#[]⟩,()))=true then if((N0 x0.2.2.2.2.2.1:Int) == 0)=true then(yl (x0.2.2.2.1.1,x0.2.2.2.2.1.1,())).bind fun z3=>some ((z3.1.1,()),()) else some ((false,()),()) else some ((false,()),()) else some ((false,()),()) else if(x0.1 == 4)=true then if(x0.2.1 == 0)=true then if(bZ aU x0.2.2.1 (0,0,⟨#[]⟩,()))=true then if(bZ aX x0.2.2.2.1 ((0,0,()),false,false,()))=true then if(bZ aX x0.2.2.2.2.1 ((0,0,()),false,false,()))=true then some ((((N0 x0.2.2.2.2.2.1:Int) == 1),()),()) else some ((false,()),()) else some ((false,()),()) else some ((false,()),()) else some ((false,()),()) else if(x0.1 == 5)=true then(iT x0.2.1 1 11).bind fun z4=>if z4.1.1=true then if(bZ aU x0.2.2.1 (0,0,⟨#[]⟩,()))=true then if(bZ aX x0.2.2.2.1 ((0,0,()),false,false,()))=true then if(bZ aX x0.2.2.2.2.1 ((0,0,()),false,false,()))=true then some ((((N0 x0.2.2.2.2.2.1:Int) == 2),()),()) else some ((false,()),()) else some ((false,()),()) else some ((false,()),()) else some ((false,()),()) else if(x0.1 == 6)=true then(ym x0.2.1 (N0 x0.2.2.2.2.2.1:Int)).bind fun z5=>if z5.1.1=true then if(bZ aU x0.2.2.1 (0,0,⟨#[]⟩,()))=true then if(bZ aX x0.2.2.2.1 ((0,0,()),false,false,()))=true then some (((bZ aX x0.2.2.2.2.1 ((0,0,()),false,false,())),()),()) else some ((false,()),()) else some ((false,()),()) else some ((false,()),()) else some ((false,()),()):=az
theorem Cr {x0 x1 x2 x3 x4}:bz x0 x1 x2 x3 x4=mf x4 ([x0]:(List ab)) 120 fun y1=>if(decide ((N0 y1:Int) > 60))=true then some (((aq_ ar_ ((N0 y1:Int) - 1)),()),((x1,x2,true,y1,()),())) else(oE x0).bind fun z1=>if(!z1.1.1)=true then some (((aq_ ar_ ((N0 y1:Int) - 1)),()),((x1,x2,true,y1,()),())) else some (((aq_ ar_ ((N0 y1:Int) - 1)),()),((x1,x2,x3,y1,()),())):=az
theorem AB {x0 x1 x2 x3}:rf x0 x1 x2 x3=gc ⟨#[]⟩ x0 x1 x2 x3:=az
theorem FU {x0}:p5 x0=fq ([⟨#[]⟩,⟨#[35,68,73,86,33]⟩,⟨#[35,84,89,80,69,33]⟩,⟨#[35,82,69,70,33]⟩,⟨#[35,79,86,69,82,33]⟩,⟨#[35,67,89,67,76,69,33]⟩]:(List L9)) x0 (some (((R0 ([⟨#[]⟩,⟨#[35,68,73,86,33]⟩,⟨#[35,84,89,80,69,33]⟩,⟨#[35,82,69,70,33]⟩,⟨#[35,79,86,69,82,33]⟩,⟨#[35,67,89,67,76,69,33]⟩]:(List L9)) (P9 x0) ⟨#[]⟩),()),())):=az
theorem DX {x0}:vH x0=some (((4,x0,⟨#[]⟩,()),()),()):=az
theorem AC {x0 x1 x2 x3}:g9 x0 x1 x2 x3=cD x1 x0 x1 x2 x3:=az
theorem Jl {x0}:A9 x0=fq ([⟨#[]⟩,⟨#[83,85,77]⟩,⟨#[77,73,78]⟩,⟨#[77,65,88]⟩,⟨#[67,79,85,78,84]⟩,⟨#[73,70]⟩,⟨#[65,78,68]⟩,⟨#[79,82]⟩,⟨#[78,79,84]⟩,⟨#[65,66,83]⟩,⟨#[76,69,78]⟩]:(List L9)) x0 (some (((R0 ([⟨#[]⟩,⟨#[83,85,77]⟩,⟨#[77,73,78]⟩,⟨#[77,65,88]⟩,⟨#[67,79,85,78,84]⟩,⟨#[73,70]⟩,⟨#[65,78,68]⟩,⟨#[79,82]⟩,⟨#[78,79,84]⟩,⟨#[65,66,83]⟩,⟨#[76,69,78]⟩]:(List L9)) (P9 x0) ⟨#[]⟩),()),())):=az
theorem DY {x0}:nz x0=(iT x0 1 52).bind fun z1=>if(!z1.1.1)=true then some ((⟨#[]⟩,()),()) else ph x0 ⟨#[]⟩:=az
theorem DZ {x0}:kO x0=pi x0 1:=az
theorem HE {x0 x1}:cb x0 x1=if(decide ((N6 x0:Int) < 1))=true then some ((0,false,()),()) else if(decide ((N6 x0:Int) > x1))=true then some ((0,false,()),()) else cM x0 0 fun y1=>if(y1 == 48)=true then if(decide ((N6 x0:Int) > 1))=true then some ((0,false,()),()) else jy x0 0 0 else jy x0 0 0:=az
theorem AD {x0}:hJ x0=if(decide ((N6 x0:Int) > 0))=true then cM x0 0 fun y1=>if(y1 == 36)=true then fC x0 1 fun y2=>eR y2 0 0 0 false false 0 0 true false else eR x0 0 0 0 false false 0 0 false false else eR x0 0 0 0 false false 0 0 false false:=az
theorem Cs {x0 x1 x2 x3}:lE x0 x1 x2 x3=(fD x0 x1 x2 x3).bind fun z1=>(g9 z1.2.1.1 z1.2.1.2.1 z1.2.1.2.2.1 z1.2.1.2.2.2.1).bind fun z2=>(hJ z2.1.1).bind fun z3=>if z3.1.2.1=true then(cy ⟨#[58]⟩ z2.2.1.1 z2.2.1.2.1 z2.2.1.2.2.1 z2.2.1.2.2.2.1).bind fun z4=>if z4.1.1=true then(fD z4.2.1.1 z4.2.1.2.1 z4.2.1.2.2.1 z4.2.1.2.2.2.1).bind fun z5=>(g9 z5.2.1.1 z5.2.1.2.1 z5.2.1.2.2.1 z5.2.1.2.2.2.1).bind fun z6=>(hJ z6.1.1).bind fun z7=>if(!z7.1.2.1)=true then some ((0,()),((z6.2.1.1,z6.2.1.2.1,true,z6.2.1.2.2.2.1,()),())) else(bz (3,0,(0,0,⟨#[]⟩,()),z3.1.1,z7.1.1,([]:(List Int)),()) z6.2.1.1 z6.2.1.2.1 z6.2.1.2.2.1 z6.2.1.2.2.2.1).bind fun z8=>some ((z8.1.1,()),(z8.2.1,())) else(da 1 z4.2.1.1 z1.2.1.2.1 z4.2.1.2.2.1 z4.2.1.2.2.2.1).bind fun z9=>some ((z9.1.1,()),(z9.2.1,())) else(da 1 z2.2.1.1 z1.2.1.2.1 z2.2.1.2.2.1 z2.2.1.2.2.2.1).bind fun z10=>some ((z10.1.1,()),(z10.2.1,())):=az
theorem AE {x0 x1 x2 x3 x4}:rg x0 x1 x2 x3 x4=lY x0 x1 x2 x3 x4 ([]:(List Int)):=az
theorem AF {x0}:mt x0=if(M1 x0 == M1 ⟨#[]⟩)=true then some (((0,0,⟨#[]⟩,()),true,()),()) else cM x0 0 fun y1=>if(y1 == 39)=true then fC x0 1 fun y2=>aw 0 0 ⟨#[]⟩ 2 0 y2 else if(M1 x0 == M1 ⟨#[84,82,85,69]⟩)=true then if(M1 x0 == M1 ⟨#[84,82,85,69]⟩)=true then if(M1 x0 == M1 ⟨#[84,82,85,69]⟩)=true then aw 0 0 ⟨#[]⟩ 3 1 ⟨#[]⟩ else aw 0 0 ⟨#[]⟩ 3 0 ⟨#[]⟩ else cM x0 0 fun y3=>if(y3 == 35)=true then de x0 1 0 0 ⟨#[]⟩ 4 0 ⟨#[]⟩ else cM x0 0 fun y4=>if(y4 == 45)=true then fC x0 1 fun y5=>(cb y5 16).bind fun z1=>if(!z1.1.2.1)=true then some (((0,0,⟨#[]⟩,()),false,()),()) else if(y4 == 45)=true then if(z1.1.1 == 0)=true then some (((0,0,⟨#[]⟩,()),false,()),()) else if(y4 == 45)=true then aw 0 0 ⟨#[]⟩ 1 (aq_ ar_ (0 - z1.1.1)) ⟨#[]⟩ else aw 0 0 ⟨#[]⟩ 1 z1.1.1 ⟨#[]⟩ else if(y4 == 45)=true then aw 0 0 ⟨#[]⟩ 1 (aq_ ar_ (0 - z1.1.1)) ⟨#[]⟩ else aw 0 0 ⟨#[]⟩ 1 z1.1.1 ⟨#[]⟩ else(cb x0 16).bind fun z2=>if(!z2.1.2.1)=true then some (((0,0,⟨#[]⟩,()),false,()),()) else if(y4 == 45)=true then if(z2.1.1 == 0)=true then some (((0,0,⟨#[]⟩,()),false,()),()) else if(y4 == 45)=true then aw 0 0 ⟨#[]⟩ 1 (aq_ ar_ (0 - z2.1.1)) ⟨#[]⟩ else aw 0 0 ⟨#[]⟩ 1 z2.1.1 ⟨#[]⟩ else if(y4 == 45)=true then aw 0 0 ⟨#[]⟩ 1 (aq_ ar_ (0 - z2.1.1)) ⟨#[]⟩ else aw 0 0 ⟨#[]⟩ 1 z2.1.1 ⟨#[]⟩ else if(M1 x0 == M1 ⟨#[70,65,76,83,69]⟩)=true then if(M1 x0 == M1 ⟨#[84,82,85,69]⟩)=true then aw 0 0 ⟨#[]⟩ 3 1 ⟨#[]⟩ else aw 0 0 ⟨#[]⟩ 3 0 ⟨#[]⟩ else cM x0 0 fun y6=>if(y6 == 35)=true then de x0 1 0 0 ⟨#[]⟩ 4 0 ⟨#[]⟩ else cM x0 0 fun y7=>if(y7 == 45)=true then fC x0 1 fun y8=>(cb y8 16).bind fun z3=>if(!z3.1.2.1)=true then some (((0,0,⟨#[]⟩,()),false,()),()) else if(y7 == 45)=true then if(z3.1.1 == 0)=true then some (((0,0,⟨#[]⟩,()),false,()),()) else if(y7 == 45)=true then aw 0 0 ⟨#[]⟩ 1 (aq_ ar_ (0 - z3.1.1)) ⟨#[]⟩ else aw 0 0 ⟨#[]⟩ 1 z3.1.1 ⟨#[]⟩ else if(y7 == 45)=true then aw 0 0 ⟨#[]⟩ 1 (aq_ ar_ (0 - z3.1.1)) ⟨#[]⟩ else aw 0 0 ⟨#[]⟩ 1 z3.1.1 ⟨#[]⟩ else(cb x0 16).bind fun z4=>if(!z4.1.2.1)=true then some (((0,0,⟨#[]⟩,()),false,()),()) else if(y7 == 45)=true then if(z4.1.1 == 0)=true then some (((0,0,⟨#[]⟩,()),false,()),()) else if(y7 == 45)=true then aw 0 0 ⟨#[]⟩ 1 (aq_ ar_ (0 - z4.1.1)) ⟨#[]⟩ else aw 0 0 ⟨#[]⟩ 1 z4.1.1 ⟨#[]⟩ else if(y7 == 45)=true then aw 0 0 ⟨#[]⟩ 1 (aq_ ar_ (0 - z4.1.1)) ⟨#[]⟩ else aw 0 0 ⟨#[]⟩ 1 z4.1.1 ⟨#[]⟩:=az
theorem Ct {x0 x1 x2 x3}:oF x0 x1 x2 x3=(cy ⟨#[45]⟩ x0 x1 x2 x3).bind fun z1=>if z1.1.1=true then(da 5 z1.2.1.1 z1.2.1.2.1 z1.2.1.2.2.1 z1.2.1.2.2.2.1).bind fun z2=>(bz (4,0,(0,0,⟨#[]⟩,()),((0,0,()),false,false,()),((0,0,()),false,false,()),([z2.1.1]:(List Int)),()) z2.2.1.1 z2.2.1.2.1 z2.2.1.2.2.1 z2.2.1.2.2.2.1).bind fun z3=>some ((z3.1.1,()),(z3.2.1,())) else(cy ⟨#[40]⟩ z1.2.1.1 z1.2.1.2.1 z1.2.1.2.2.1 z1.2.1.2.2.2.1).bind fun z4=>if z4.1.1=true then(da 1 z4.2.1.1 z4.2.1.2.1 z4.2.1.2.2.1 z4.2.1.2.2.2.1).bind fun z5=>(cy ⟨#[41]⟩ z5.2.1.1 z5.2.1.2.1 z5.2.1.2.2.1 z5.2.1.2.2.2.1).bind fun z6=>if(!z6.1.1)=true then some ((z5.1.1,()),((z6.2.1.1,z6.2.1.2.1,true,z6.2.1.2.2.2.1,()),())) else some ((z5.1.1,()),(z6.2.1,())) else(cy ⟨#[34]⟩ z4.2.1.1 z4.2.1.2.1 z4.2.1.2.2.1 z4.2.1.2.2.2.1).bind fun z7=>if z7.1.1=true then(rf z7.2.1.1 z7.2.1.2.1 z7.2.1.2.2.1 z7.2.1.2.2.2.1).bind fun z8=>some ((z8.1.1,()),(z8.2.1,())) else(cy ⟨#[35]⟩ z7.2.1.1 z7.2.1.2.1 z7.2.1.2.2.1 z7.2.1.2.2.2.1).bind fun z9=>if z9.1.1=true then eT 1 z9.2.1.1 z9.2.1.2.1 z9.2.1.2.2.1 z9.2.1.2.2.2.1 else(g9 z9.2.1.1 z9.2.1.2.1 z9.2.1.2.2.1 z9.2.1.2.2.2.1).bind fun z10=>dn z10.1.1 1 z10.2.1.1 z10.2.1.2.1 z10.2.1.2.2.1 z10.2.1.2.2.2.1:=az
theorem D0 {x0}:nD x0=if(decide (x0≥6))=true then some ((1,()),()) else if(x0 == 5)=true then some ((2,()),()) else if(decide (x0≥3))=true then some ((4,()),()) else some ((3,()),()):=az
theorem FV {x0}:p6 x0=fq ([⟨#[]⟩,⟨#[43]⟩,⟨#[45]⟩,⟨#[42]⟩,⟨#[47]⟩,⟨#[38]⟩,⟨#[61]⟩,⟨#[60,62]⟩,⟨#[60]⟩,⟨#[60,61]⟩,⟨#[62]⟩,⟨#[62,61]⟩]:(List L9)) x0 (some (((R0 ([⟨#[]⟩,⟨#[43]⟩,⟨#[45]⟩,⟨#[42]⟩,⟨#[47]⟩,⟨#[38]⟩,⟨#[61]⟩,⟨#[60,62]⟩,⟨#[60]⟩,⟨#[60,61]⟩,⟨#[62]⟩,⟨#[62,61]⟩]:(List L9)) (P9 x0) ⟨#[]⟩),()),())):=az
theorem D1 {x0 x1 x2 x3 x4}:vI x0 x1 x2 x3 x4=lq x0 0 x1 x2 x3 x4 ([7,9,11,6,8,10,1,2,3,4,5]:(List Int)):=az
theorem FW {x0 x1}:p7 x0 x1=ix x0 x1 (af.dflt) fun y1=>mA x0 x1 (aq_ ar_ (x1 - 1)) (aq_ ar_ ((N0 y1.2.2.2.2.2.1:Int) - 1)):=az
theorem FX {x0 x1}:p8 x0 x1=mB x0 x1 0 0:=az
theorem AG {x0}:mu x0=if(decide ((N0 x0:Int) < 1))=true then some ((false,()),()) else if(decide ((N0 x0:Int) > 60))=true then some ((false,()),()) else cW x0 0:=az
theorem xe {x0}:nE x0=(ny x0).bind fun z1=>if(!z1.1.1)=true then some ((([]:(List ab)),false,()),()) else(da 1 x0 0 false ([]:(List ab))).bind fun z2=>(fD z2.2.1.1 z2.2.1.2.1 z2.2.1.2.2.1 z2.2.1.2.2.2.1).bind fun z3=>if z3.2.1.2.2.1=true then some ((([]:(List ab)),false,()),()) else if(decide (z3.2.1.2.1 < (N6 x0:Int)))=true then some ((([]:(List ab)),false,()),()) else(mu z3.2.1.2.2.2.1).bind fun z4=>if(!z4.1.1)=true then some ((([]:(List ab)),false,()),()) else some ((z3.2.1.2.2.2.1,true,()),()):=az
theorem D2 {x0}:vJ x0=iA x0 ⟨#[34]⟩ 0:=az
theorem zQ {x0}:iy x0=if(decide (x0 < 0))=true then(iy (aq_ ar_ (0 - x0))).bind fun z1=>aZ ⟨#[45]⟩ z1.1.1 fun y1=>some ((y1,()),()) else lF x0 ⟨#[]⟩:=az
theorem FY {x0}:yn x0=if(x0 == 1)=true then some ((⟨#[84,82,85,69]⟩,()),()) else some ((⟨#[70,65,76,83,69]⟩,()),()):=az
theorem AH {x0}:fb x0=(eC x0).bind fun z1=>if(!z1.1.1)=true then some ((⟨#[]⟩,()),()) else if(x0.1 == 1)=true then(iy x0.2.1).bind fun z2=>some ((z2.1.1,()),()) else if(x0.1 == 2)=true then aZ ⟨#[39]⟩ x0.2.2.1 fun y1=>some ((y1,()),()) else if(x0.1 == 3)=true then(yn x0.2.1).bind fun z3=>some ((z3.1.1,()),()) else if(x0.1 == 4)=true then(p5 x0.2.1).bind fun z4=>some ((z4.1.1,()),()) else some ((⟨#[]⟩,()),()):=az
theorem AI {x0}:jZ x0=(db x0.1).bind fun z1=>if(!z1.1.1)=true then some ((⟨#[]⟩,()),()) else(nz x0.1.1).bind fun z2=>if x0.2.1=true then aZ ⟨#[36]⟩ z2.1.1 fun y1=>if x0.2.2.1=true then aZ y1 ⟨#[36]⟩ fun y2=>(iy x0.1.2.1).bind fun z3=>aZ y2 z3.1.1 fun y3=>some ((y3,()),()) else(iy x0.1.2.1).bind fun z4=>aZ y1 z4.1.1 fun y4=>some ((y4,()),()) else if x0.2.2.1=true then aZ z2.1.1 ⟨#[36]⟩ fun y5=>(iy x0.1.2.1).bind fun z5=>aZ y5 z5.1.1 fun y6=>some ((y6,()),()) else(iy x0.1.2.1).bind fun z6=>aZ z2.1.1 z6.1.1 fun y7=>some ((y7,()),()):=az
theorem FZ {x0 x1 x2}:hO x0 x1 x2=ix x0 x1 (af.dflt) fun y1=>if(y1.1 == 1)=true then if(y1.2.2.1.1 == 2)=true then(vJ y1.2.2.1.2.2.1).bind fun z1=>some ((z1.1.1,()),()) else(fb y1.2.2.1).bind fun z2=>some ((z2.1.1,()),()) else if(y1.1 == 2)=true then(jZ y1.2.2.2.1).bind fun z3=>some ((z3.1.1,()),()) else if(y1.1 == 3)=true then(jZ y1.2.2.2.1).bind fun z4=>aZ z4.1.1 ⟨#[58]⟩ fun y2=>(jZ y1.2.2.2.2.1).bind fun z5=>aZ y2 z5.1.1 fun y3=>some ((y3,()),()) else if(y1.1 == 4)=true then ix y1.2.2.2.2.2.1 0 0 fun y4=>(hO x0 y4 5).bind fun z6=>aZ ⟨#[45]⟩ z6.1.1 fun y5=>some ((y5,()),()) else if(y1.1 == 5)=true then(nD y1.2.1).bind fun z7=>ix y1.2.2.2.2.2.1 0 0 fun y6=>(hO x0 y6 z7.1.1).bind fun z8=>(p6 y1.2.1).bind fun z9=>aZ z8.1.1 z9.1.1 fun y7=>ix y1.2.2.2.2.2.1 1 0 fun y8=>(hO x0 y8 (aq_ ar_ (z7.1.1+1))).bind fun z10=>aZ y7 z10.1.1 fun y9=>if(decide (z7.1.1 < x2))=true then aZ ⟨#[40]⟩ y9 fun y10=>aZ y10 ⟨#[41]⟩ fun y11=>some ((y11,()),()) else some ((y9,()),()) else(A9 y1.2.1).bind fun z11=>aZ z11.1.1 ⟨#[40]⟩ fun y12=>iB x0 y12 0 y1.1 y1.2.1 y1.2.2.1 y1.2.2.2.1 y1.2.2.2.2.1 y1.2.2.2.2.2.1:=az
theorem xf {x0}:nG x0=(mu x0).bind fun z1=>if(!z1.1.1)=true then some ((⟨#[]⟩,()),()) else(hO x0 (aq_ ar_ ((N0 x0:Int) - 1)) 0).bind fun z2=>if(decide ((N6 z2.1.1:Int) > 200))=true then some ((⟨#[]⟩,()),()) else some ((z2.1.1,()),()):=az
theorem Cu {x0}:tj x0=if(decide ((N6 x0:Int) > 0))=true then cM x0 0 fun y1=>if(y1 == 45)=true then fC x0 1 fun y2=>if(M1 y2 == M1 ⟨#[]⟩)=true then some (((0,0,⟨#[]⟩,()),false,()),()) else fG y2 (y1 == 45) 0 0 ⟨#[]⟩ else if(M1 x0 == M1 ⟨#[]⟩)=true then some (((0,0,⟨#[]⟩,()),false,()),()) else fG x0 (y1 == 45) 0 0 ⟨#[]⟩ else if(M1 x0 == M1 ⟨#[]⟩)=true then some (((0,0,⟨#[]⟩,()),false,()),()) else fG x0 false 0 0 ⟨#[]⟩:=az
end Go.Proofs.YtfffplonjaigkaaGreatDoor.Abs
namespace Go.Proofs.YtfffplonjaigkaaGreatDoor.Abs
open Go Go.Proofs.YtfffplonjaigkaaGreatDoor
theorem D3 {x0}:rh x0=(ny x0).bind fun z1=>if(!z1.1.1)=true then some ((⟨#[]⟩,false,()),()) else if(M1 x0 == M1 ⟨#[]⟩)=true then some ((⟨#[]⟩,true,()),()) else cM x0 0 fun y1=>if(y1 == 61)=true then fC x0 1 fun y2=>(nE y2).bind fun z2=>(nG z2.1.1).bind fun z3=>if(!z2.1.2.1)=true then some ((⟨#[]⟩,false,()),()) else if(M1 z3.1.1 == M1 ⟨#[]⟩)=true then some ((⟨#[]⟩,false,()),()) else if(decide ((aq_ ar_ ((N6 z3.1.1:Int)+1)) > 200))=true then some ((⟨#[]⟩,false,()),()) else aZ ⟨#[61]⟩ z3.1.1 fun y3=>some ((y3,true,()),()) else(tj x0).bind fun z4=>if z4.1.2.1=true then(fb z4.1.1).bind fun z5=>some ((z5.1.1,true,()),()) else(mt x0).bind fun z6=>if(!z6.1.2.1)=true then(fb (2,0,x0,())).bind fun z7=>if(decide ((N6 z7.1.1:Int) > 200))=true then some ((⟨#[]⟩,false,()),()) else some ((z7.1.1,true,()),()) else(fb z6.1.1).bind fun z8=>if(decide ((N6 z8.1.1:Int) > 200))=true then some ((⟨#[]⟩,false,()),()) else some ((z8.1.1,true,()),()):=az
theorem D4 {x0 x1}:vK x0 x1=if(decide (x0.2.1 < x1.2.1))=true then some ((true,()),()) else if(x0.2.1 == x1.2.1)=true then some (((decide (x0.1 < x1.1)),()),()) else some ((false,()),()):=az
theorem D5 {x0}:ri x0=if(decide ((N0 x0:Int) > 120))=true then some ((false,()),()) else iC x0 0:=az
theorem D6 {x0 x1}:jf x0 x1=lr x1 0 x0.1 x0.2.1 x0.2.2.1:=az
theorem D7 {x0}:vL x0=if(decide ((N6 x0:Int) < 1))=true then some ((false,()),()) else if(decide ((N6 x0:Int) > 12))=true then some ((false,()),()) else lu x0 0:=az
theorem HF {x0}:B6 x0=(iT x0.1 2 1000000000).bind fun z1=>if(!z1.1.1)=true then some ((false,()),()) else if(decide ((N0 x0.2.1:Int) < 1))=true then some ((false,()),()) else if(decide ((N0 x0.2.1:Int) > 40))=true then some ((false,()),()) else if(decide ((N0 x0.2.2.1:Int) < 1))=true then some ((false,()),()) else if(decide ((N0 x0.2.2.1:Int) > 8))=true then some ((false,()),()) else ep 0 x0.1 x0.2.1 x0.2.2.1:=az
theorem F0 {x0 x1}:p9 x0 x1=mC x0 x1 0:=az
theorem Cv {x0 x1}:oG x0 x1=gK 0 x0.1 x0.2.1 x0.2.2.1 ([x1]:(List Int)):=az
theorem F1 {x0 x1 x2}:yo x0 x1 x2=(oG x0 x1).bind fun z1=>(oG x0 x2).bind fun z2=>j9 0 0 z1.1.1 z2.1.1:=az
theorem Kh {x0 x1 x2}:Je x0 x1 x2=(B6 x0).bind fun z1=>if(!z1.1.1)=true then some ((0,()),()) else(jf x0 x1).bind fun z2=>if(decide (z2.1.1 < 0))=true then some ((0,()),()) else(jf x0 x2).bind fun z3=>if(decide (z3.1.1 < 0))=true then some ((0,()),()) else(yo x0 x1 x2).bind fun z4=>some ((z4.1.1,()),()):=az
theorem F2 {x0 x1 x2}:dc x0 x1 x2=if(decide (x0≥x1))=true then some (((decide (x0≤x2)),()),()) else some ((false,()),()):=az
theorem uF {x0 x1}:qa x0 x1=some (((x0.1 == x1),()),(x1,())):=az
theorem fJ {x0 x1}:dk x0 x1=bc x0 (N0 x0:Int) 0 x1:=az
theorem xg {x0 x1}:dN x0 x1=(dk x0.2.1 x1).bind fun z1=>some ((z1.1.1,()),()):=az
theorem AJ {x0 x1 x2}:mv x0 x1 x2=cX x1 x2 x1 (N0 x1:Int) 0 x0.1 x0.2.1 x0.2.2.1:=az
theorem HG {x0}:nH x0=(dc x0.1 1 52).bind fun z1=>if z1.1.1=true then(dc x0.2.1 1 99).bind fun z2=>some ((z2.1.1,()),()) else some ((false,()),()):=az
theorem lG {x0}:j0 x0=some (((x0 != x0),()),()):=az
theorem rs {x0 x1}:fw x0 x1=(j0 x0).bind fun z1=>(j0 x1).bind fun z2=>if z1.1.1=true then if z2.1.1=true then some ((0,()),()) else some (((-1),()),()) else if z2.1.1=true then some ((1,()),()) else if(decide (x0 < x1))=true then some (((-1),()),()) else if(decide (x0 > x1))=true then some ((1,()),()) else some ((0,()),()):=az
theorem AK {x0}:rj x0=iU 0 x0 (N0 x0:Int) 0:=az
theorem xh {x0 x1}:nI x0 x1=(fw x0.2.1 x1.2.1).bind fun z1=>(fw x0.1 x1.1).bind fun z2=>(rj ([z1.1.1,z2.1.1]:(List Int))).bind fun z3=>some ((z3.1.1,()),()):=az
theorem F3 {x0 x1}:qb x0 x1=mD x0 x1 (N6 x0:Int) 0:=az
theorem nQ {x0 x1}:dd x0 x1=if(decide ((N6 x0:Int)≥(N6 x1:Int)))=true then uS x0 (N6 x1:Int) fun y1=>some (((M1 y1 == M1 x1),()),()) else some ((false,()),()):=az
theorem nR {x0 x1}:jx x0 x1=(dd x0 x1).bind fun z1=>if(!z1.1.1)=true then some ((x0,false,()),()) else fC x0 (N6 x1:Int) fun y1=>some ((y1,true,()),()):=az
theorem rt {x0 x1}:b8 x0 x1=(jx x0 x1).bind fun z1=>some (z1.1,()):=az
theorem so {x0 x1}:eD x0 x1=(jS) [.val .str x0,.val .str x1] []:=az
theorem uG {x0 x1 x2}:ew x0 x1 x2=(eD x0 ⟨#[32]⟩).bind fun z1=>some ((),((z1.1.1,x2,x1,()),())):=az
theorem ru {x0 x1}:cK x0 x1=(dd x0 x1).bind fun z1=>some ((z1.1.1,()),()):=az
theorem xi {x0 x1 x2}:j6 x0 x1 x2=(ew x0 x1 x2).bind fun z1=>gr (N0 ([⟨#[60,62]⟩,⟨#[60,61]⟩,⟨#[62,61]⟩,⟨#[60]⟩,⟨#[62]⟩,⟨#[61]⟩,⟨#[38]⟩,⟨#[43]⟩,⟨#[45]⟩,⟨#[42]⟩,⟨#[47]⟩,⟨#[40]⟩,⟨#[41]⟩,⟨#[44]⟩,⟨#[58]⟩]:(List L9)):Int) 0 z1.2.1.1 z1.2.1.2.2.1 ([⟨#[60,62]⟩,⟨#[60,61]⟩,⟨#[62,61]⟩,⟨#[60]⟩,⟨#[62]⟩,⟨#[61]⟩,⟨#[38]⟩,⟨#[43]⟩,⟨#[45]⟩,⟨#[42]⟩,⟨#[47]⟩,⟨#[40]⟩,⟨#[41]⟩,⟨#[44]⟩,⟨#[58]⟩]:(List L9)) z1.2.1.2.1:=az
theorem xj {x0 x1 x2 x3}:aY x0 x1 x2 x3=(j6 x1 x2 x3).bind fun z1=>if(! (M1 z1.1.1 == M1 x0))=true then some ((false,()),(z1.2.1,())) else fC z1.2.1.1 (N6 x0:Int) fun y1=>some ((true,()),((y1,z1.2.1.2.1,z1.2.1.2.2.1,()),())):=az
theorem nS {x0 x1 x2 x3}:ga x0 x1 x2 x3=if(decide (x0 > 400))=true then some (((-1),()),((x1,x3,true,()),())) else if x2=true then some (((-1),()),((x1,x3,x2,()),())) else(aY ⟨#[45]⟩ x1 x2 x3).bind fun z1=>if z1.1.1=true then(ga (aq_ ar_ (x0+1)) z1.2.1.1 z1.2.1.2.2.1 z1.2.1.2.1).bind fun z2=>(aG (4,0,(0,0,⟨#[]⟩,()),((0,0,()),false,false,()),((0,0,()),false,false,()),([z2.1.1]:(List Int)),()) z2.2.1.1 z2.2.1.2.2.1 z2.2.1.2.1).bind fun z3=>some ((z3.1.1,()),(z3.2.1,())) else(j8 x0 z1.2.1.1 z1.2.1.2.2.1 z1.2.1.2.1).bind fun z4=>some ((z4.1.1,()),(z4.2.1,())):=az
theorem yx {x0 x1 x2 x3}:aG x0 x1 x2 x3=if x2=true then some (((aq_ ar_ ((N0 x3:Int) - 1)),()),((x1,x3,true,()),())) else if(! (decide ((N0 x3:Int)≥60)))=true then mf x3 ([x0]:(List ab)) 120 fun y1=>some (((aq_ ar_ ((N0 y1:Int) - 1)),()),((x1,y1,(decide ((N0 x3:Int)≥60)),()),())) else some (((aq_ ar_ ((N0 x3:Int) - 1)),()),((x1,x3,(decide ((N0 x3:Int)≥60)),()),())):=az
theorem yy {x0 x1}:strings_Cut x0 x1=(ue) [.val .str x0,.val .str x1] []:=az
theorem sq {x0 x1 x2 x3}:bm x0 x1 x2 x3=(aG (1,0,x0,((0,0,()),false,false,()),((0,0,()),false,false,()),([]:(List Int)),()) x1 x2 x3).bind fun z1=>some ((z1.1.1,()),(z1.2.1,())):=az
theorem uH {x0 x1 x2}:fE x0 x1 x2=fC x0 1 fun y1=>fx ⟨#[]⟩ y1 x0 x1 x2:=az
theorem AL {x0}:j7 x0=fq ([⟨#[]⟩,⟨#[35,68,73,86,33]⟩,⟨#[35,84,89,80,69,33]⟩,⟨#[35,82,69,70,33]⟩,⟨#[35,79,86,69,82,33]⟩,⟨#[35,67,89,67,76,69,33]⟩]:(List L9)) x0 (some (((R0 ([⟨#[]⟩,⟨#[35,68,73,86,33]⟩,⟨#[35,84,89,80,69,33]⟩,⟨#[35,82,69,70,33]⟩,⟨#[35,79,86,69,82,33]⟩,⟨#[35,67,89,67,76,69,33]⟩]:(List L9)) (P9 x0) ⟨#[]⟩),()),())):=az
theorem HH {x0}:w8 x0=some (((4,x0,⟨#[]⟩,()),()),()):=az
theorem xk {x0 x1 x2}:fF x0 x1 x2=(ew x0 x1 x2).bind fun z1=>(eD z1.2.1.1 ⟨#[65,66,67,68,69,70,71,72,73,74,75,76,77,78,79,80,81,82,83,84,85,86,87,88,89,90,48,49,50,51,52,53,54,55,56,57,36]⟩).bind fun z2=>uS z1.2.1.1 (aq_ ar_ ((N6 z1.2.1.1:Int) - (N6 z2.1.1:Int))) fun y1=>fC z1.2.1.1 (aq_ ar_ ((N6 z1.2.1.1:Int) - (N6 z2.1.1:Int))) fun y2=>some ((y1,()),((y2,z1.2.1.2.1,z1.2.1.2.2.1,()),())):=az
theorem D8 {x0}:eE x0=if(x0.1 == 2)=true then if(x0.2.1 == 0)=true then(qb x0.2.2.1 200).bind fun z1=>some ((z1.1.1,()),()) else some ((false,()),()) else if(! (M1 x0.2.2.1 == M1 ⟨#[]⟩))=true then some ((false,()),()) else if(x0.1 == 0)=true then some (((x0.2.1 == 0),()),()) else if(x0.1 == 1)=true then(dc x0.2.1 (-1000000000000000) 1000000000000000).bind fun z2=>some ((z2.1.1,()),()) else if(x0.1 == 3)=true then(dc x0.2.1 0 1).bind fun z3=>some ((z3.1.1,()),()) else if(x0.1 == 4)=true then(dc x0.2.1 1 5).bind fun z4=>some ((z4.1.1,()),()) else some ((false,()),()):=az
theorem rx {x0 x1}:mi x0 x1=(ud) [.val (.int .i64) x0,.val (.int .i64) x1] []:=az
theorem D9 {x0}:fZ x0=(mi x0 10).bind fun z1=>some ((z1.1.1,()),()):=az
theorem AM {x0}:dD x0=if(x0.1 == 1)=true then(fZ x0.2.1).bind fun z1=>some ((z1.1.1,()),()) else if(x0.1 == 2)=true then aZ ⟨#[39]⟩ x0.2.2.1 fun y1=>some ((y1,()),()) else if(x0.1 == 3)=true then fq ([⟨#[70,65,76,83,69]⟩,⟨#[84,82,85,69]⟩]:(List L9)) x0.2.1 (some (((R0 ([⟨#[70,65,76,83,69]⟩,⟨#[84,82,85,69]⟩]:(List L9)) (P9 x0.2.1) ⟨#[]⟩),()),())) else if(x0.1 == 4)=true then(j7 x0.2.1).bind fun z2=>some ((z2.1.1,()),()) else some ((⟨#[]⟩,()),()):=az
theorem HI {x0}:w9 x0=if x0=true then some (((3,1,⟨#[]⟩,()),()),()) else some (((3,0,⟨#[]⟩,()),()),()):=az
theorem sr {x0 x1 x2}:eF x0 x1 x2=(jT) [.val .str x0,.val (.int .i64) x1,.val (.int .i64) x2] []:=az
theorem F4 {x0}:ui x0=some (((1,x0,⟨#[]⟩,()),()),()):=az
theorem AN {x0}:f0 x0=(b8 x0 ⟨#[39]⟩).bind fun z1=>if z1.1.2.1=true then(eE (2,0,z1.1.1,())).bind fun z2=>if(!z2.1.1)=true then some (((0,0,⟨#[]⟩,()),false,()),()) else(dD (2,0,z1.1.1,())).bind fun z3=>if(! (M1 z3.1.1 == M1 x0))=true then some (((0,0,⟨#[]⟩,()),false,()),()) else some (((2,0,z1.1.1,()),true,()),()) else if(M1 x0 == M1 ⟨#[70,65,76,83,69]⟩)=true then(w9 (M1 x0 == M1 ⟨#[84,82,85,69]⟩)).bind fun z4=>(eE z4.1.1).bind fun z5=>if(!z5.1.1)=true then some (((0,0,⟨#[]⟩,()),false,()),()) else(dD z4.1.1).bind fun z6=>if(! (M1 z6.1.1 == M1 x0))=true then some (((0,0,⟨#[]⟩,()),false,()),()) else some ((z4.1.1,true,()),()) else if(M1 x0 == M1 ⟨#[84,82,85,69]⟩)=true then(w9 (M1 x0 == M1 ⟨#[84,82,85,69]⟩)).bind fun z7=>(eE z7.1.1).bind fun z8=>if(!z8.1.1)=true then some (((0,0,⟨#[]⟩,()),false,()),()) else(dD z7.1.1).bind fun z9=>if(! (M1 z9.1.1 == M1 x0))=true then some (((0,0,⟨#[]⟩,()),false,()),()) else some ((z7.1.1,true,()),()) else(cK x0 ⟨#[35]⟩).bind fun z10=>if z10.1.1=true then eb x0 1 0 0 ⟨#[]⟩ 0 0 ⟨#[]⟩ else if(! (M1 x0 == M1 ⟨#[]⟩))=true then(eF x0 10 64).bind fun z11=>(ui z11.1.1).bind fun z12=>(eE z12.1.1).bind fun z13=>if(!z13.1.1)=true then some (((0,0,⟨#[]⟩,()),false,()),()) else(dD z12.1.1).bind fun z14=>if(! (M1 z14.1.1 == M1 x0))=true then some (((0,0,⟨#[]⟩,()),false,()),()) else some ((z12.1.1,true,()),()) else(eE (0,0,⟨#[]⟩,())).bind fun z15=>if(!z15.1.1)=true then some (((0,0,⟨#[]⟩,()),false,()),()) else(dD (0,0,⟨#[]⟩,())).bind fun z16=>if(! (M1 z16.1.1 == M1 x0))=true then some (((0,0,⟨#[]⟩,()),false,()),()) else some (((0,0,⟨#[]⟩,()),true,()),()):=az
theorem Ea {x0}:kP x0=(dc x0 1 52).bind fun z1=>if(!z1.1.1)=true then some ((⟨#[]⟩,()),()) else if(decide (x0≤26))=true then some (((strOfNums ([(IntKind.u8.wrap (aq_ ar_ ((aq_ ar_ (65+x0)) - 1)))]:(List Int))),()),()) else some (((strOfNums ([(IntKind.u8.wrap (aq_ ar_ ((aq_ ar_ (65+(aq_ ar_ (Int.tdiv (aq_ ar_ (x0 - 1)) 26)))) - 1))),(IntKind.u8.wrap (aq_ ar_ (65+(Int.tmod (aq_ ar_ (x0 - 1)) 26))))]:(List Int))),()),()):=az
theorem Eb {x0}:vM x0=pk x0 1:=az
theorem AO {x0}:hY x0=(nH x0.1).bind fun z1=>if(!z1.1.1)=true then some ((⟨#[]⟩,()),()) else if x0.2.1=true then(kP x0.1.1).bind fun z2=>aZ ⟨#[36]⟩ z2.1.1 fun y1=>if x0.2.2.1=true then aZ y1 ⟨#[36]⟩ fun y2=>(fZ x0.1.2.1).bind fun z3=>aZ y2 z3.1.1 fun y3=>some ((y3,()),()) else(fZ x0.1.2.1).bind fun z4=>aZ y1 z4.1.1 fun y4=>some ((y4,()),()) else(kP x0.1.1).bind fun z5=>aZ ⟨#[]⟩ z5.1.1 fun y5=>if x0.2.2.1=true then aZ y5 ⟨#[36]⟩ fun y6=>(fZ x0.1.2.1).bind fun z6=>aZ y6 z6.1.1 fun y7=>some ((y7,()),()) else(fZ x0.1.2.1).bind fun z7=>aZ y5 z7.1.1 fun y8=>some ((y8,()),()):=az
theorem AP {x0}:ek x0=(b8 x0 ⟨#[36]⟩).bind fun z1=>(eD z1.1.1 ⟨#[65,66,67,68,69,70,71,72,73,74,75,76,77,78,79,80,81,82,83,84,85,86,87,88,89,90]⟩).bind fun z2=>uS z1.1.1 (aq_ ar_ ((N6 z1.1.1:Int) - (N6 z2.1.1:Int))) fun y1=>(vM y1).bind fun z3=>fC z1.1.1 (aq_ ar_ ((N6 z1.1.1:Int) - (N6 z2.1.1:Int))) fun y2=>(b8 y2 ⟨#[36]⟩).bind fun z4=>(eF z4.1.1 10 64).bind fun z5=>(nH (z3.1.1,z5.1.1,())).bind fun z6=>if(!z6.1.1)=true then some ((((0,0,()),false,false,()),false,()),()) else(hY ((z3.1.1,z5.1.1,()),z1.1.2.1,z4.1.2.1,())).bind fun z7=>if(! (M1 z7.1.1 == M1 x0))=true then some ((((0,0,()),false,false,()),false,()),()) else some ((((z3.1.1,z5.1.1,()),z1.1.2.1,z4.1.2.1,()),true,()),()):=az
theorem F5 {x0}:uj x0=fq ([⟨#[]⟩,⟨#[83,85,77]⟩,⟨#[77,73,78]⟩,⟨#[77,65,88]⟩,⟨#[67,79,85,78,84]⟩,⟨#[73,70]⟩,⟨#[65,78,68]⟩,⟨#[79,82]⟩,⟨#[78,79,84]⟩,⟨#[65,66,83]⟩,⟨#[76,69,78]⟩]:(List L9)) x0 (some (((R0 ([⟨#[]⟩,⟨#[83,85,77]⟩,⟨#[77,73,78]⟩,⟨#[77,65,88]⟩,⟨#[67,79,85,78,84]⟩,⟨#[73,70]⟩,⟨#[65,78,68]⟩,⟨#[79,82]⟩,⟨#[78,79,84]⟩,⟨#[65,66,83]⟩,⟨#[76,69,78]⟩]:(List L9)) (P9 x0) ⟨#[]⟩),()),())):=az
theorem su {x0 x1 x2}:f2 x0 x1 x2=(fF x0 x1 x2).bind fun z1=>(ek z1.1.1).bind fun z2=>if z2.1.2.1=true then(aY ⟨#[58]⟩ z1.2.1.1 z1.2.1.2.2.1 z1.2.1.2.1).bind fun z3=>if(!z3.1.1)=true then some (((0,0,(0,0,⟨#[]⟩,()),((0,0,()),false,false,()),((0,0,()),false,false,()),([]:(List Int)),()),false,()),((x0,z3.2.1.2.1,z3.2.1.2.2.1,()),())) else(fF z3.2.1.1 z3.2.1.2.2.1 z3.2.1.2.1).bind fun z4=>(ek z4.1.1).bind fun z5=>if z4.2.1.2.2.1=true then some (((3,0,(0,0,⟨#[]⟩,()),z2.1.1,z5.1.1,([]:(List Int)),()),true,()),((z4.2.1.1,z4.2.1.2.1,true,()),())) else some (((3,0,(0,0,⟨#[]⟩,()),z2.1.1,z5.1.1,([]:(List Int)),()),true,()),((z4.2.1.1,z4.2.1.2.1,(!z5.1.2.1),()),())) else some (((0,0,(0,0,⟨#[]⟩,()),((0,0,()),false,false,()),((0,0,()),false,false,()),([]:(List Int)),()),false,()),((x0,z1.2.1.2.1,z1.2.1.2.2.1,()),())):=az
theorem mj {x0 x1 x2 x3 x4}:bb x0 x1 x2 x3 x4=(ga x1 x2 x3 x4).bind fun z1=>dj x0 x1 z1.1.1 z1.2.1.1 z1.2.1.2.2.1 z1.2.1.2.1:=az
theorem oK {x0 x1 x2 x3 x4}:eG x0 x1 x2 x3 x4=if x3=true then oJ x0 x1 x2 true x4 ([]:(List Int)) else(aY ⟨#[40]⟩ x2 x3 x4).bind fun z1=>bN x0 x1 z1.2.1.1 (!z1.1.1) ([]:(List Int)) z1.2.1.2.1:=az
theorem xl {x0 x1 x2 x3}:j8 x0 x1 x2 x3=(ew x1 x2 x3).bind fun z1=>(cK z1.2.1.1 ⟨#[34]⟩).bind fun z2=>if z2.1.1=true then(fE z1.2.1.1 z1.2.1.2.2.1 z1.2.1.2.1).bind fun z3=>some ((z3.1.1,()),(z3.2.1,())) else(cK z1.2.1.1 ⟨#[35]⟩).bind fun z4=>if z4.1.1=true then cp x0 1 z1.2.1.1 z1.2.1.2.2.1 z1.2.1.2.1 else(aY ⟨#[40]⟩ z1.2.1.1 z1.2.1.2.2.1 z1.2.1.2.1).bind fun z5=>if z5.1.1=true then(bb 1 (aq_ ar_ (x0+1)) z5.2.1.1 z5.2.1.2.2.1 z5.2.1.2.1).bind fun z6=>if z6.2.1.2.2.1=true then some ((z6.1.1,()),((z6.2.1.1,z6.2.1.2.1,true,()),())) else(aY ⟨#[41]⟩ z6.2.1.1 z6.2.1.2.2.1 z6.2.1.2.1).bind fun z7=>some ((z6.1.1,()),((z7.2.1.1,z7.2.1.2.1,(!z7.1.1),()),())) else(fF z5.2.1.1 z5.2.1.2.2.1 z5.2.1.2.1).bind fun z8=>(f0 z8.1.1).bind fun z9=>if z9.1.2.1=true then if(z9.1.1.1 == 1)=true then(bm z9.1.1 z8.2.1.1 z8.2.1.2.2.1 z8.2.1.2.1).bind fun z10=>some ((z10.1.1,()),(z10.2.1,())) else if(z9.1.1.1 == 3)=true then(bm z9.1.1 z8.2.1.1 z8.2.1.2.2.1 z8.2.1.2.1).bind fun z11=>some ((z11.1.1,()),(z11.2.1,())) else(ek z8.1.1).bind fun z12=>if z12.1.2.1=true then(aG (2,0,(0,0,⟨#[]⟩,()),z12.1.1,((0,0,()),false,false,()),([]:(List Int)),()) z8.2.1.1 z8.2.1.2.2.1 z8.2.1.2.1).bind fun z13=>some ((z13.1.1,()),(z13.2.1,())) else cz x0 z8.1.1 1 z8.2.1.1 z8.2.1.2.2.1 z8.2.1.2.1 else(ek z8.1.1).bind fun z14=>if z14.1.2.1=true then(aG (2,0,(0,0,⟨#[]⟩,()),z14.1.1,((0,0,()),false,false,()),([]:(List Int)),()) z8.2.1.1 z8.2.1.2.2.1 z8.2.1.2.1).bind fun z15=>some ((z15.1.1,()),(z15.2.1,())) else cz x0 z8.1.1 1 z8.2.1.1 z8.2.1.2.2.1 z8.2.1.2.1:=az
theorem F6 {x0}:qc x0=fq ([⟨#[]⟩,⟨#[43]⟩,⟨#[45]⟩,⟨#[42]⟩,⟨#[47]⟩,⟨#[38]⟩,⟨#[61]⟩,⟨#[60,62]⟩,⟨#[60]⟩,⟨#[60,61]⟩,⟨#[62]⟩,⟨#[62,61]⟩]:(List L9)) x0 (some (((R0 ([⟨#[]⟩,⟨#[43]⟩,⟨#[45]⟩,⟨#[42]⟩,⟨#[47]⟩,⟨#[38]⟩,⟨#[61]⟩,⟨#[60,62]⟩,⟨#[60]⟩,⟨#[60,61]⟩,⟨#[62]⟩,⟨#[62,61]⟩]:(List L9)) (P9 x0) ⟨#[]⟩),()),())):=az
theorem HJ {x0}:tk x0=if(x0 == 3)=true then if(x0 == 3)=true then some ((4,()),()) else if(x0 == 1)=true then if(x0 == 1)=true then some ((3,()),()) else if(x0 == 5)=true then some ((2,()),()) else some ((1,()),()) else if(x0 == 2)=true then some ((3,()),()) else if(x0 == 5)=true then some ((2,()),()) else some ((1,()),()) else if(x0 == 4)=true then some ((4,()),()) else if(x0 == 1)=true then if(x0 == 1)=true then some ((3,()),()) else if(x0 == 5)=true then some ((2,()),()) else some ((1,()),()) else if(x0 == 2)=true then some ((3,()),()) else if(x0 == 5)=true then some ((2,()),()) else some ((1,()),()):=az
theorem yz {x0}:pd x0=if(x0.1 == 2)=true then some (((x0.2.2.2.1.1,x0.2.2.2.1.1,()),()),()) else some (((x0.2.2.2.1.1,x0.2.2.2.2.1.1,()),()),()):=az
theorem F7 {x0}:uk x0=(nH x0.1).bind fun z1=>if z1.1.1=true then(nH x0.2.1).bind fun z2=>if z2.1.1=true then if(decide (x0.1.1≤x0.2.1.1))=true then some (((decide (x0.1.2.1≤x0.2.1.2.1)),()),()) else some ((false,()),()) else some ((false,()),()) else some ((false,()),()):=az
theorem tw {x0}:cN x0=if(x0.1 != 2)=true then if(x0.1 != 3)=true then some ((true,()),()) else(pd x0).bind fun z1=>(uk z1.1.1).bind fun z2=>some ((z2.1.1,()),()) else(pd x0).bind fun z3=>(uk z3.1.1).bind fun z4=>some ((z4.1.1,()),()):=az
theorem vU {x0}:dl x0=if(x0.1 == 4)=true then if(x0.2.1 == 0)=true then some ((((N0 x0.2.2.2.2.2.1:Int) == 1),()),()) else some ((false,()),()) else if(x0.1 == 5)=true then(dc x0.2.1 1 11).bind fun z1=>if z1.1.1=true then some ((((N0 x0.2.2.2.2.2.1:Int) == 2),()),()) else some ((false,()),()) else if(x0.1 == 6)=true then(dc x0.2.1 1 10).bind fun z2=>if(!z2.1.1)=true then some ((false,()),()) else if(x0.2.1 == 5)=true then(dc (N0 x0.2.2.2.2.2.1:Int) 2 3).bind fun z3=>some ((z3.1.1,()),()) else if(decide (x0.2.1≥8))=true then some ((((N0 x0.2.2.2.2.2.1:Int) == 1),()),()) else(dc (N0 x0.2.2.2.2.2.1:Int) 1 10).bind fun z4=>some ((z4.1.1,()),()) else if(x0.2.1 == 0)=true then some ((((N0 x0.2.2.2.2.2.1:Int) == 0),()),()) else some ((false,()),()):=az
end Go.Proofs.YtfffplonjaigkaaGreatDoor.Abs
namespace Go.Proofs.YtfffplonjaigkaaGreatDoor.Abs
open Go Go.Proofs.YtfffplonjaigkaaGreatDoor
theorem xm {x0}:nJ x0=if(x0.1 == 1)=true then(eE x0.2.2.1).bind fun z1=>if(!z1.1.1)=true then some ((false,()),()) else if(x0.2.2.1.1 == 0)=true then some ((false,()),()) else if(x0.2.2.1.1 == 1)=true then if(decide (x0.2.2.1.2.1 < 0))=true then some ((false,()),()) else(cN x0).bind fun z2=>if z2.1.1=true then(dl x0).bind fun z3=>if z3.1.1=true then if(bZ aU x0.2.2.1 x0.2.2.1)=true then if(bZ aX ((0,0,()),false,false,()) x0.2.2.2.1)=true then some (((bZ aX ((0,0,()),false,false,()) x0.2.2.2.2.1),()),()) else some ((false,()),()) else some ((false,()),()) else some ((false,()),()) else some ((false,()),()) else(cN x0).bind fun z4=>if z4.1.1=true then(dl x0).bind fun z5=>if z5.1.1=true then if(bZ aU x0.2.2.1 x0.2.2.1)=true then if(bZ aX ((0,0,()),false,false,()) x0.2.2.2.1)=true then some (((bZ aX ((0,0,()),false,false,()) x0.2.2.2.2.1),()),()) else some ((false,()),()) else some ((false,()),()) else some ((false,()),()) else some ((false,()),()) else if(x0.1 == 2)=true then(cN x0).bind fun z6=>if z6.1.1=true then(dl x0).bind fun z7=>if z7.1.1=true then if(bZ aU (0,0,⟨#[]⟩,()) x0.2.2.1)=true then if(bZ aX x0.2.2.2.1 x0.2.2.2.1)=true then some (((bZ aX ((0,0,()),false,false,()) x0.2.2.2.2.1),()),()) else some ((false,()),()) else some ((false,()),()) else some ((false,()),()) else some ((false,()),()) else if(x0.1 == 3)=true then(cN x0).bind fun z8=>if z8.1.1=true then(dl x0).bind fun z9=>if z9.1.1=true then if(bZ aU (0,0,⟨#[]⟩,()) x0.2.2.1)=true then if(bZ aX x0.2.2.2.1 x0.2.2.2.1)=true then some (((bZ aX x0.2.2.2.2.1 x0.2.2.2.2.1),()),()) else some ((false,()),()) else some ((false,()),()) else some ((false,()),()) else some ((false,()),()) else if(x0.1 == 4)=true then if(x0.1 == 4)=true then(cN x0).bind fun z10=>if z10.1.1=true then(dl x0).bind fun z11=>if z11.1.1=true then if(bZ aU (0,0,⟨#[]⟩,()) x0.2.2.1)=true then if(bZ aX ((0,0,()),false,false,()) x0.2.2.2.1)=true then some (((bZ aX ((0,0,()),false,false,()) x0.2.2.2.2.1),()),()) else some ((false,()),()) else some ((false,()),()) else some ((false,()),()) else some ((false,()),()) else some ((false,()),()) else if(x0.1 == 5)=true then if(x0.1 == 5)=true then(cN x0).bind fun z12=>if z12.1.1=true then(dl x0).bind fun z13=>if z13.1.1=true then if(bZ aU (0,0,⟨#[]⟩,()) x0.2.2.1)=true then if(bZ aX ((0,0,()),false,false,()) x0.2.2.2.1)=true then some (((bZ aX ((0,0,()),false,false,()) x0.2.2.2.2.1),()),()) else some ((false,()),()) else some ((false,()),()) else some ((false,()),()) else some ((false,()),()) else some ((false,()),()) else if(x0.1 == 6)=true then(cN x0).bind fun z14=>if z14.1.1=true then(dl x0).bind fun z15=>if z15.1.1=true then if(bZ aU (0,0,⟨#[]⟩,()) x0.2.2.1)=true then if(bZ aX ((0,0,()),false,false,()) x0.2.2.2.1)=true then some (((bZ aX ((0,0,()),false,false,()) x0.2.2.2.2.1),()),()) else some ((false,()),()) else some ((false,()),()) else some ((false,()),()) else some ((false,()),()) else some ((false,()),()):=az
theorem Jm {x0 x1 x2}:rk x0 x1 x2=if(decide (x1 < 0))=true then some (((-1),()),()) else if(decide (x2≥12))=true then some (((-1),()),()) else ix x0 x1 (af.dflt) fun y1=>(nJ y1).bind fun z1=>if(!z1.1.1)=true then some (((-1),()),()) else ix x0 x1 (af.dflt) fun y2=>kS x0 x1 x2 x1 (aq_ ar_ ((N0 y2.2.2.2.2.2.1:Int) - 1)):=az
theorem AQ {x0}:mw x0=(dc (N0 x0:Int) 1 60).bind fun z1=>if z1.1.1=true then ix x0 (aq_ ar_ ((N0 x0:Int) - 1)) (af.dflt) fun y1=>if(y1.1 != 3)=true then(rk x0 (aq_ ar_ ((N0 x0:Int) - 1)) 0).bind fun z2=>some (((z2.1.1 == 0),()),()) else some ((false,()),()) else some ((false,()),()):=az
theorem xn {x0}:nK x0=(qb x0 200).bind fun z1=>if(!z1.1.1)=true then some ((([]:(List ab)),false,()),()) else(bb 1 0 x0 false ([]:(List ab))).bind fun z2=>(ew z2.2.1.1 z2.2.1.2.2.1 z2.2.1.2.1).bind fun z3=>if z3.2.1.2.2.1=true then some ((([]:(List ab)),false,()),()) else if(! (M1 z3.2.1.1 == M1 ⟨#[]⟩))=true then some ((([]:(List ab)),false,()),()) else(mw z3.2.1.2.1).bind fun z4=>if(!z4.1.1)=true then some ((([]:(List ab)),false,()),()) else some ((z3.2.1.2.1,true,()),()):=az
theorem qi {x0 x1 x2}:strings_ReplaceAll x0 x1 x2=(lm) [.val .str x0,.val .str x1,.val .str x2] []:=az
theorem xo {x0 x1 x2}:dP x0 x1 x2=ix x0 x1 (af.dflt) fun y1=>if(y1.1 == 1)=true then if(y1.2.2.1.1 == 2)=true then(strings_ReplaceAll y1.2.2.1.2.2.1 ⟨#[34]⟩ ⟨#[34,34]⟩).bind fun z1=>aZ ⟨#[34]⟩ z1.1.1 fun y2=>aZ y2 ⟨#[34]⟩ fun y3=>some ((y3,()),()) else(dD y1.2.2.1).bind fun z2=>some ((z2.1.1,()),()) else if(y1.1 == 2)=true then(hY y1.2.2.2.1).bind fun z3=>some ((z3.1.1,()),()) else if(y1.1 == 3)=true then(hY y1.2.2.2.1).bind fun z4=>aZ z4.1.1 ⟨#[58]⟩ fun y4=>(hY y1.2.2.2.2.1).bind fun z5=>aZ y4 z5.1.1 fun y5=>some ((y5,()),()) else if(y1.1 == 4)=true then ix y1.2.2.2.2.2.1 0 0 fun y6=>(dP x0 y6 5).bind fun z6=>aZ ⟨#[45]⟩ z6.1.1 fun y7=>some ((y7,()),()) else if(y1.1 == 5)=true then(tk y1.2.1).bind fun z7=>ix y1.2.2.2.2.2.1 0 0 fun y8=>(dP x0 y8 z7.1.1).bind fun z8=>(qc y1.2.1).bind fun z9=>aZ z8.1.1 z9.1.1 fun y9=>ix y1.2.2.2.2.2.1 1 0 fun y10=>(dP x0 y10 (aq_ ar_ (z7.1.1+1))).bind fun z10=>aZ y9 z10.1.1 fun y11=>if(decide (z7.1.1 < x2))=true then aZ ⟨#[40]⟩ y11 fun y12=>aZ y12 ⟨#[41]⟩ fun y13=>some ((y13,()),()) else some ((y11,()),()) else f4 x0 y1.2.2.2.2.2.1 (N0 y1.2.2.2.2.2.1:Int) 0 y1.1 y1.2.1 y1.2.2.1 y1.2.2.2.1 y1.2.2.2.2.1 y1.2.2.2.2.2.1 ([]:(List L9)):=az
theorem xp {x0 x1}:strings_Join x0 x1=(qR Jd) [.val (.slice 9 .str) x0,.val .str x1] []:=az
theorem xq {x0}:nL x0=(mw x0).bind fun z1=>if(!z1.1.1)=true then some ((⟨#[]⟩,()),()) else(dP x0 (aq_ ar_ ((N0 x0:Int) - 1)) 1).bind fun z2=>if(decide ((N6 z2.1.1:Int) > 200))=true then some ((⟨#[]⟩,()),()) else some ((z2.1.1,()),()):=az
theorem Cw {x0}:zP x0=(nL x0).bind fun z1=>aZ ⟨#[61]⟩ z1.1.1 fun y1=>if(! (M1 z1.1.1 == M1 ⟨#[]⟩))=true then some ((y1,(decide ((N6 z1.1.1:Int) < 200)),()),()) else some ((y1,false,()),()):=az
theorem mE {x0 x1}:iz x0 x1=(dd x0 x1).bind fun z1=>if z1.1.1=true then fC x0 (N6 x1:Int) fun y1=>some ((y1,()),()) else some ((x0,()),()):=az
theorem qj {x0 x1}:gI x0 x1=(iz x0 x1).bind fun z1=>some ((z1.1.1,()),()):=az
theorem oL {x0 x1}:gJ x0 x1=(qQ) [.val .str x0,.val .str x1] []:=az
theorem Cx {x0}:tl x0=(gI x0 ⟨#[45]⟩).bind fun z1=>if(! (M1 z1.1.1 == M1 ⟨#[]⟩))=true then(gJ z1.1.1 ⟨#[48,49,50,51,52,53,54,55,56,57]⟩).bind fun z2=>some (((M1 z2.1.1 == M1 ⟨#[]⟩),()),()) else some ((false,()),()):=az
theorem Ec {x0}:rl x0=(qb x0 200).bind fun z1=>if(!z1.1.1)=true then some ((⟨#[]⟩,(M1 x0 == M1 ⟨#[]⟩),()),()) else if(M1 x0 == M1 ⟨#[]⟩)=true then some ((⟨#[]⟩,(M1 x0 == M1 ⟨#[]⟩),()),()) else(b8 x0 ⟨#[61]⟩).bind fun z2=>if z2.1.2.1=true then(nK z2.1.1).bind fun z3=>(zP z3.1.1).bind fun z4=>if(!z3.1.2.1)=true then some ((⟨#[]⟩,false,()),()) else if(!z4.1.2.1)=true then some ((⟨#[]⟩,false,()),()) else some ((z4.1.1,true,()),()) else(eF x0 10 64).bind fun z5=>if z5.1.2.1=true then(tl x0).bind fun z6=>if z6.1.1=true then(ui z5.1.1).bind fun z7=>(eE z7.1.1).bind fun z8=>if z8.1.1=true then(fZ z5.1.1).bind fun z9=>some ((z9.1.1,true,()),()) else(f0 x0).bind fun z10=>if z10.1.2.1=true then some ((x0,true,()),()) else if((N6 x0:Int) == 200)=true then some ((⟨#[]⟩,false,()),()) else aZ ⟨#[39]⟩ x0 fun y1=>some ((y1,true,()),()) else(f0 x0).bind fun z11=>if z11.1.2.1=true then some ((x0,true,()),()) else if((N6 x0:Int) == 200)=true then some ((⟨#[]⟩,false,()),()) else aZ ⟨#[39]⟩ x0 fun y2=>some ((y2,true,()),()) else(f0 x0).bind fun z12=>if z12.1.2.1=true then some ((x0,true,()),()) else if((N6 x0:Int) == 200)=true then some ((⟨#[]⟩,false,()),()) else aZ ⟨#[39]⟩ x0 fun y3=>some ((y3,true,()),()):=az
theorem Cy {x0}:oH x0=(rl x0).bind fun z1=>if z1.1.2.1=true then if(! (M1 x0 == M1 ⟨#[]⟩))=true then some (((M1 z1.1.1 == M1 x0),()),()) else some ((false,()),()) else some ((false,()),()):=az
theorem Ed {x0}:rm x0=iE x0 x0 (N0 x0:Int) 0:=az
theorem F8 {x0}:yp x0=if(decide ((N6 x0:Int)≥1))=true then if(decide ((N6 x0:Int)≤12))=true then(gJ x0 ⟨#[97,98,99,100,101,102,103,104,105,106,107,108,109,110,111,112,113,114,115,116,117,118,119,120,121,122]⟩).bind fun z1=>some (((M1 z1.1.1 == M1 ⟨#[]⟩),()),()) else some ((false,()),()) else some ((false,()),()):=az
theorem HK {x0}:B7 x0=(dc x0.1 2 1000000000).bind fun z1=>if(!z1.1.1)=true then some ((false,()),()) else(dc (N0 x0.2.1:Int) 1 40).bind fun z2=>if(!z2.1.1)=true then some ((false,()),()) else(dc (N0 x0.2.2.1:Int) 1 8).bind fun z3=>if(!z3.1.1)=true then some ((false,()),()) else fd x0.2.1 (N0 x0.2.1:Int) 0 x0.1 x0.2.1 x0.2.2.1:=az
theorem kn {x0 x1}:gb x0 x1=b7 x0 x1 (N0 x0:Int) 0:=az
theorem jg {x0 x1}:cu x0 x1=(gb x0 x1).bind fun z1=>some (((decide (z1.1.1≥0)),()),()):=az
theorem ka {x0}:dQ x0=(jw 2) [.row 0] [(0,.row 2 (.int .i64) x0 false)]:=az
theorem AR {x0 x1}:my x0 x1=gd 0 x0.1 x0.2.1 x0.2.2.1 ([x1]:(List Int)):=az
theorem Ee {x0 x1 x2}:vO x0 x1 x2=(my x0 x2).bind fun z1=>(my x0 x1).bind fun z2=>iG 0 (N0 z2.1.1:Int) 0 z1.1.1 z2.1.1:=az
theorem Ki {x0 x1 x2}:Jf x0 x1 x2=(B7 x0).bind fun z1=>if(!z1.1.1)=true then some ((0,()),()) else(dN x0 x1).bind fun z2=>if(decide (z2.1.1 < 0))=true then some ((0,()),()) else(dN x0 x2).bind fun z3=>if(decide (z3.1.1 < 0))=true then some ((0,()),()) else(vO x0 x1 x2).bind fun z4=>some ((z4.1.1,()),()):=az
theorem Cz {x0 x1}:tm x0 x1=if((N0 x0:Int) != (N0 x1:Int))=true then some ((false,()),()) else nO x0 x1 0:=az
theorem HL {x0 x1}:B8 x0 x1=if(x0.1 != x1.1)=true then some ((false,()),()) else if(x0.2.1 != x1.2.1)=true then some ((false,()),()) else some ((true,()),()):=az
theorem F9 {x0 x1}:um x0 x1=(B8 x0.1 x1.1).bind fun z1=>if(!z1.1.1)=true then some ((false,()),()) else if(! (M1 x0.2.1 == M1 x1.2.1))=true then some ((false,()),()) else some ((true,()),()):=az
theorem Ef {x0 x1}:vP x0 x1=if((N0 x0:Int) != (N0 x1:Int))=true then some ((false,()),()) else pl x0 x1 0:=az
theorem AU {x0 x1}:mz x0 x1=if(x0.1 != x1.1)=true then some ((false,()),()) else(tm x0.2.1 x1.2.1).bind fun z1=>if(!z1.1.1)=true then some ((false,()),()) else(vP x0.2.2.1 x1.2.2.1).bind fun z2=>if(!z2.1.1)=true then some ((false,()),()) else some ((true,()),()):=az
theorem yA {x0 x1}:pe x0 x1=if((N0 x0:Int) != (N0 x1:Int))=true then some ((false,()),()) else kU x0 x1 0:=az
theorem CA {x0 x1}:oI x0 x1=if(! (M1 x0.1 == M1 x1.1))=true then some ((false,()),()) else if(x0.2.1 != x1.2.1)=true then some ((false,()),()) else some ((true,()),()):=az
theorem AV {x0 x1}:rn x0 x1=if((N0 x0:Int) != (N0 x1:Int))=true then some ((false,()),()) else l4 x0 x1 0:=az
theorem HM {x0 x1}:B9 x0 x1=if(x0.1 != x1.1)=true then some ((false,()),()) else(pe x0.2.1 x1.2.1).bind fun z1=>if(!z1.1.1)=true then some ((false,()),()) else(rn x0.2.2.1 x1.2.2.1).bind fun z2=>if(!z2.1.1)=true then some ((false,()),()) else some ((true,()),()):=az
theorem yB {x0 x1 x2}:u7 x0 x1 x2=(B4 x0 1048576).bind fun z1=>if(decide (z1.1.1 < 0))=true then some ((true,()),()) else(th x0).bind fun z2=>(Je z2.1.1 x1 x2).bind fun z3=>(th x0).bind fun z4=>(Jf z4.1.1 x1 x2).bind fun z5=>if(z5.1.1 != z3.1.1)=true then some ((false,()),()) else(th x0).bind fun z6=>(B9 z4.1.1 z6.1.1).bind fun z7=>if(!z7.1.1)=true then some ((false,()),()) else some ((true,()),()):=az
theorem yC {x0 x1 x2}:pf x0 x1 x2=if(decide (x2 < (N0 x0:Int)))=true then ix x0 x2 (bq.dflt) fun y1=>(ug y1 x1).bind fun z1=>if(decide (z1.1.1 < 0))=true then some (((-1),()),()) else pf x0 z1.1.1 (aq_ ar_ (x2+1)) else some ((x1,()),()):=bA
theorem uI {x0 x1 x2}:kQ x0 x1 x2=if(decide (x2 < (N0 x0:Int)))=true then ix x0 x2 (cH.dflt) fun y1=>(mq y1 x1).bind fun z1=>if(decide (z1.1.1 < 0))=true then some (((-1),()),()) else kQ x0 z1.1.1 (aq_ ar_ (x2+1)) else some ((x1,()),()):=bA
theorem vV {x0 x1 x2}:lW x0 x1 x2=if(decide (x2 < (N0 x0:Int)))=true then ix x0 x2 (aN.dflt) fun y1=>(oC y1 x1).bind fun z1=>if(decide (z1.1.1 < 0))=true then some (((-1),()),()) else lW x0 z1.1.1 (aq_ ar_ (x2+1)) else some ((x1,()),()):=bA
theorem xr {x0 x1 x2}:nM x0 x1 x2=if(decide (x1 < (N0 x0:Int)))=true then ix x0 x1 0 fun y1=>fq x2 x1 (nM x0 (aq_ ar_ (x1+1)) (List.set x2 (P9 x1) y1)) else some ((x2,()),()):=bA
theorem yD {x0 x1 x2}:pg x0 x1 x2=if(decide (x1 < (N0 x0:Int)))=true then ix x0 x1 (bq.dflt) fun y1=>(uh y1).bind fun z1=>fq x2 x1 (pg x0 (aq_ ar_ (x1+1)) (List.set x2 (P9 x1) z1.1.1)) else some ((x2,()),()):=bA
theorem uJ {x0 x1 x2}:kR x0 x1 x2=if(decide (x1 < (N0 x0:Int)))=true then ix x0 x1 (cH.dflt) fun y1=>(mr y1).bind fun z1=>fq x2 x1 (kR x0 (aq_ ar_ (x1+1)) (List.set x2 (P9 x1) z1.1.1)) else some ((x2,()),()):=bA
theorem vW {x0 x1 x2}:lX x0 x1 x2=if(decide (x1 < (N0 x0:Int)))=true then ix x0 x1 (aN.dflt) fun y1=>(oD y1).bind fun z1=>fq x2 x1 (lX x0 (aq_ ar_ (x1+1)) (List.set x2 (P9 x1) z1.1.1)) else some ((x2,()),()):=bA
theorem qk {x0 x1}:lp x0 x1=if(decide (x1 < (N6 x0:Int)))=true then cM x0 x1 fun y1=>if(decide (y1 < 32))=true then some ((false,()),()) else cM x0 x1 fun y2=>if(decide (y2 > 126))=true then some ((false,()),()) else lp x0 (aq_ ar_ (x1+1)) else some (((decide ((N6 x0:Int)≤200)),()),()):=bA
theorem lH {x0 x1 x2 x3}:gq x0 x1 x2 x3=if(decide (x1 < (N6 x0:Int)))=true then cM x0 x1 fun y1=>if(y1 == 32)=true then gq x0 (aq_ ar_ (x1+1)) x2 x3 else some ((),((x0,x1,x2,x3,()),())) else some ((),((x0,x1,x2,x3,()),())):=bA
theorem oM {x0 x1 x2 x3 x4 x5}:cj x0 x1 x2 x3 x4 x5=if(!x4)=true then(vI x0 x2 x3 x4 x5).bind fun z1=>if(z1.1.1 == 0)=true then some ((x1,()),(z1.2.1,())) else(da (aq_ ar_ (x0+1)) z1.2.1.1 z1.2.1.2.1 z1.2.1.2.2.1 z1.2.1.2.2.2.1).bind fun z2=>(bz (5,z1.1.1,(0,0,⟨#[]⟩,()),((0,0,()),false,false,()),((0,0,()),false,false,()),([x1,z2.1.1]:(List Int)),()) z2.2.1.1 z2.2.1.2.1 z2.2.1.2.2.1 z2.2.1.2.2.2.1).bind fun z3=>cj x0 z3.1.1 z3.2.1.1 z3.2.1.2.1 z3.2.1.2.2.1 z3.2.1.2.2.2.1 else some ((x1,()),((x2,x3,x4,x5,()),())):=bA
theorem vX {x0 x1 x2 x3 x4}:gc x0 x1 x2 x3 x4=if(decide (x2 < (N6 x1:Int)))=true then cM x1 x2 fun y1=>if(y1 != 34)=true then oz x1 x2 (aq_ ar_ (x2+1)) fun y2=>aZ x0 y2 fun y3=>gc y3 x1 (aq_ ar_ (x2+1)) x3 x4 else if(decide ((aq_ ar_ (x2+1))≥(N6 x1:Int)))=true then(bz (1,0,(2,0,x0,()),((0,0,()),false,false,()),((0,0,()),false,false,()),([]:(List Int)),()) x1 (aq_ ar_ (x2+1)) x3 x4).bind fun z1=>some ((z1.1.1,()),(z1.2.1,())) else cM x1 (aq_ ar_ (x2+1)) fun y4=>if(y4 != 34)=true then(bz (1,0,(2,0,x0,()),((0,0,()),false,false,()),((0,0,()),false,false,()),([]:(List Int)),()) x1 (aq_ ar_ (x2+1)) x3 x4).bind fun z2=>some ((z2.1.1,()),(z2.2.1,())) else aZ x0 ⟨#[34]⟩ fun y5=>gc y5 x1 (aq_ ar_ ((aq_ ar_ (x2+1))+1)) x3 x4 else some ((0,()),((x1,x2,true,x4,()),())):=bA
theorem nT {x0 x1 x2 x3 x4}:cD x0 x1 x2 x3 x4=if(decide (x2 < (N6 x1:Int)))=true then cM x1 x2 fun y1=>if(decide (y1≥65))=true then cM x1 x2 fun y2=>if(decide (y2≤90))=true then cD x0 x1 (aq_ ar_ (x2+1)) x3 x4 else cM x1 x2 fun y3=>if(decide (y3≥48))=true then cM x1 x2 fun y4=>if(decide (y4≤57))=true then cD x0 x1 (aq_ ar_ (x2+1)) x3 x4 else cM x1 x2 fun y5=>if(y5 == 36)=true then cD x0 x1 (aq_ ar_ (x2+1)) x3 x4 else oz x1 x0 x2 fun y6=>some ((y6,()),((x1,x2,x3,x4,()),())) else cM x1 x2 fun y7=>if(y7 == 36)=true then cD x0 x1 (aq_ ar_ (x2+1)) x3 x4 else oz x1 x0 x2 fun y8=>some ((y8,()),((x1,x2,x3,x4,()),())) else cM x1 x2 fun y9=>if(decide (y9≥48))=true then cM x1 x2 fun y10=>if(decide (y10≤57))=true then cD x0 x1 (aq_ ar_ (x2+1)) x3 x4 else cM x1 x2 fun y11=>if(y11 == 36)=true then cD x0 x1 (aq_ ar_ (x2+1)) x3 x4 else oz x1 x0 x2 fun y12=>some ((y12,()),((x1,x2,x3,x4,()),())) else cM x1 x2 fun y13=>if(y13 == 36)=true then cD x0 x1 (aq_ ar_ (x2+1)) x3 x4 else oz x1 x0 x2 fun y14=>some ((y14,()),((x1,x2,x3,x4,()),())) else oz x1 x0 x2 fun y15=>some ((y15,()),((x1,x2,x3,x4,()),())):=bA
theorem hZ {x0 x1}:ph x0 x1=if(decide (x0 > 0))=true then aZ (strOfNums ([(IntKind.u8.wrap (aq_ ar_ (65+(Int.tmod (aq_ ar_ (x0 - 1)) 26))))]:(List Int))) x1 fun y1=>ph (aq_ ar_ (Int.tdiv (aq_ ar_ (x0 - 1)) 26)) y1 else some ((x1,()),()):=bA
theorem yE {x0 x1}:pi x0 x1=if(decide (x1≤52))=true then(nz x1).bind fun z1=>if(M1 z1.1.1 == M1 x0)=true then some ((x1,()),()) else pi x0 (aq_ ar_ (x1+1)) else some ((0,()),()):=bA
theorem tx {x0 x1 x2}:jy x0 x1 x2=if(decide (x2 < (N6 x0:Int)))=true then cM x0 x2 fun y1=>if(decide (y1 < 48))=true then some ((0,false,()),()) else cM x0 x2 fun y2=>if(decide (y2 > 57))=true then some ((0,false,()),()) else cM x0 x2 fun y3=>jy x0 (aq_ ar_ ((aq_ ar_ (x1*10))+(aq_ ar_ (IntKind.u8.wrap (y3 - 48))))) (aq_ ar_ (x2+1)) else some ((x1,true,()),()):=bA
theorem nU {x0 x1 x2 x3 x4 x5 x6 x7 x8 x9}:eR x0 x1 x2 x3 x4 x5 x6 x7 x8 x9=if(decide (x1 < (N6 x0:Int)))=true then cM x0 x1 fun y1=>if(decide (y1≥65))=true then cM x0 x1 fun y2=>if(decide (y2≤90))=true then eR x0 (aq_ ar_ (x1+1)) x2 x3 x4 x5 x6 x7 x8 x9 else uS x0 x1 fun y3=>(kO y3).bind fun z1=>fC x0 x1 fun y4=>if(decide ((N6 y4:Int) > 0))=true then cM y4 0 fun y5=>if(y5 == 36)=true then fC y4 1 fun y6=>(cb y6 2).bind fun z2=>if(!z2.1.2.1)=true then some ((((0,0,()),false,false,()),false,()),()) else(db (z1.1.1,z2.1.1,())).bind fun z3=>if(!z3.1.1)=true then some ((((0,0,()),false,false,()),false,()),()) else some ((((z1.1.1,z2.1.1,()),x8,true,()),true,()),()) else(cb y4 2).bind fun z4=>if(!z4.1.2.1)=true then some ((((0,0,()),false,false,()),false,()),()) else(db (z1.1.1,z4.1.1,())).bind fun z5=>if(!z5.1.1)=true then some ((((0,0,()),false,false,()),false,()),()) else some ((((z1.1.1,z4.1.1,()),x8,x9,()),true,()),()) else(cb y4 2).bind fun z6=>if(!z6.1.2.1)=true then some ((((0,0,()),false,false,()),false,()),()) else(db (z1.1.1,z6.1.1,())).bind fun z7=>if(!z7.1.1)=true then some ((((0,0,()),false,false,()),false,()),()) else some ((((z1.1.1,z6.1.1,()),x8,x9,()),true,()),()) else uS x0 x1 fun y7=>(kO y7).bind fun z8=>fC x0 x1 fun y8=>if(decide ((N6 y8:Int) > 0))=true then cM y8 0 fun y9=>if(y9 == 36)=true then fC y8 1 fun y10=>(cb y10 2).bind fun z9=>if(!z9.1.2.1)=true then some ((((0,0,()),false,false,()),false,()),()) else(db (z8.1.1,z9.1.1,())).bind fun z10=>if(!z10.1.1)=true then some ((((0,0,()),false,false,()),false,()),()) else some ((((z8.1.1,z9.1.1,()),x8,true,()),true,()),()) else(cb y8 2).bind fun z11=>if(!z11.1.2.1)=true then some ((((0,0,()),false,false,()),false,()),()) else(db (z8.1.1,z11.1.1,())).bind fun z12=>if(!z12.1.1)=true then some ((((0,0,()),false,false,()),false,()),()) else some ((((z8.1.1,z11.1.1,()),x8,x9,()),true,()),()) else(cb y8 2).bind fun z13=>if(!z13.1.2.1)=true then some ((((0,0,()),false,false,()),false,()),()) else(db (z8.1.1,z13.1.1,())).bind fun z14=>if(!z14.1.1)=true then some ((((0,0,()),false,false,()),false,()),()) else some ((((z8.1.1,z13.1.1,()),x8,x9,()),true,()),()) else uS x0 x1 fun y11=>(kO y11).bind fun z15=>fC x0 x1 fun y12=>if(decide ((N6 y12:Int) > 0))=true then cM y12 0 fun y13=>if(y13 == 36)=true then fC y12 1 fun y14=>(cb y14 2).bind fun z16=>if(!z16.1.2.1)=true then some ((((0,0,()),false,false,()),false,()),()) else(db (z15.1.1,z16.1.1,())).bind fun z17=>if(!z17.1.1)=true then some ((((0,0,()),false,false,()),false,()),()) else some ((((z15.1.1,z16.1.1,()),x8,true,()),true,()),()) else(cb y12 2).bind fun z18=>if(!z18.1.2.1)=true then some ((((0,0,()),false,false,()),false,()),()) else(db (z15.1.1,z18.1.1,())).bind fun z19=>if(!z19.1.1)=true then some ((((0,0,()),false,false,()),false,()),()) else some ((((z15.1.1,z18.1.1,()),x8,x9,()),true,()),()) else(cb y12 2).bind fun z20=>if(!z20.1.2.1)=true then some ((((0,0,()),false,false,()),false,()),()) else(db (z15.1.1,z20.1.1,())).bind fun z21=>if(!z21.1.1)=true then some ((((0,0,()),false,false,()),false,()),()) else some ((((z15.1.1,z20.1.1,()),x8,x9,()),true,()),()):=bA
theorem vY {x0 x1 x2 x3 x4 x5}:lY x0 x1 x2 x3 x4 x5=if(!x3)=true then(lE x1 x2 x3 x4).bind fun z1=>mf x5 ([z1.1.1]:(List Int)) 8 fun y1=>(cy ⟨#[41]⟩ z1.2.1.1 z1.2.1.2.1 z1.2.1.2.2.1 z1.2.1.2.2.2.1).bind fun z2=>if z2.1.1=true then(bz (6,x0,(0,0,⟨#[]⟩,()),((0,0,()),false,false,()),((0,0,()),false,false,()),y1,()) z2.2.1.1 z2.2.1.2.1 z2.2.1.2.2.1 z2.2.1.2.2.2.1).bind fun z3=>some ((z3.1.1,()),(z3.2.1,())) else(cy ⟨#[44]⟩ z2.2.1.1 z2.2.1.2.1 z2.2.1.2.2.1 z2.2.1.2.2.2.1).bind fun z4=>if(!z4.1.1)=true then cc x0 z4.2.1.1 z4.2.1.2.1 true y1 z4.2.1.2.2.2.1 else cc x0 z4.2.1.1 z4.2.1.2.1 z4.2.1.2.2.1 y1 z4.2.1.2.2.2.1 else some ((0,()),((x1,x2,x3,x4,()),())):=bA
theorem uK {x0 x1 x2 x3 x4 x5}:aw x0 x1 x2 x3 x4 x5=(eC (x3,x4,x5,())).bind fun z1=>if(!z1.1.1)=true then some (((0,0,⟨#[]⟩,()),false,()),()) else some (((x3,x4,x5,()),true,()),()):=bA
theorem ml {x0 x1 x2 x3 x4 x5 x6 x7}:de x0 x1 x2 x3 x4 x5 x6 x7=if(decide (x1≤5))=true then(p5 x1).bind fun z1=>if(M1 z1.1.1 == M1 x0)=true then de x0 (aq_ ar_ (x1+1)) x2 x3 x4 x5 x1 x7 else de x0 (aq_ ar_ (x1+1)) x2 x3 x4 x5 x6 x7 else aw x2 x3 x4 x5 x6 x7:=bA
theorem nV {x0 x1 x2 x3 x4}:eT x0 x1 x2 x3 x4=if(decide (x0≤5))=true then(p5 x0).bind fun z1=>fC z1.1.1 1 fun y1=>if(decide ((aq_ ar_ (x2+(N6 y1:Int)))≤(N6 x1:Int)))=true then oz x1 x2 (aq_ ar_ (x2+(N6 y1:Int))) fun y2=>if(M1 y2 == M1 y1)=true then(vH x0).bind fun z2=>(bz (1,0,z2.1.1,((0,0,()),false,false,()),((0,0,()),false,false,()),([]:(List Int)),()) x1 (aq_ ar_ (x2+(N6 y1:Int))) x3 x4).bind fun z3=>some ((z3.1.1,()),(z3.2.1,())) else eT (aq_ ar_ (x0+1)) x1 x2 x3 x4 else eT (aq_ ar_ (x0+1)) x1 x2 x3 x4 else some ((0,()),((x1,x2,true,x4,()),())):=bA
end Go.Proofs.YtfffplonjaigkaaGreatDoor.Abs
